/- Parts. -/
import Derived.Test.YtfbkameikhgciaaGreatDoorMg09
import Derived.Test.YtfbkameikhgciaaGreatDoorMg14
set_option linter.all false
set_option maxRecDepth 20000
set_option maxHeartbeats 8000000
open Go.Lib renaming hid → Q1
open List renaming getElem?_eq_getElem → Q2, length_append → KS, range → K0, append_assoc → K1, getElem_mem → Vy, take_of_length_le → q0, length → q4, mem_cons_of_mem → q6, mem_cons_self → q7, length_drop → q8, getElem_cons_zero → q9, length_map → kI, flatMap_cons → kv, drop_eq_getElem_cons → k5, length_cons → k7, map_append → k8, getElem_toArray → k9, setIfInBounds_toArray → vv, set_cons_zero → vz, set_cons_succ → v0, drop_append_of_le_length → v1, take_append_of_le_length → v2, take_take → v3, take_left' → v5, mem_cons → v9, not_mem_nil → j0, range' → j1, drop_eq_nil_of_le → j2, all_eq_true → j8, mem_range → zB, cons_append → zA, nil_append → z0, append_nil → z2
open Nat renaming le_refl → KL, lt_of_lt_of_le → K2, pow_le_pow_right → k6, min_eq_left → v4, mod_eq_of_lt → z3
open UInt8 renaming ofNat → Vx, toNat_ofNat' → q5, toNat → z1
namespace Go.PH
open Go.RowKit Go.Proofs Go.Proofs.Tryz
variable {B base c lb n : Nat} {F : Nat → Prop} {A : Option Addr} {w wr wr' : World}
def LS.beginL(L:LS)(b:List UInt8):LS×List UInt8:=
 if b.take 8=hdrB then({L with st:=1,sent:=L.sent++hdrB++ctlB L.sz startB},b.drop 8)
 else if b.length<8∧b=hdrB.take b.length then(L,b)else({L with st:=5,sent:=L.sent++hdrB},b)
def LS.pre(L:LS)(b s:List UInt8):LS×List UInt8:=if L.st=0 then LS.beginL {L with sent:=[],told:=[]} (b++s)else({L with sent:=[],told:=[]},b++s)
def LS.post(ctl:LS→As→LS)(p:LS×List UInt8):LS×List UInt8:=if p.1.st=0∨p.1.st=5 then p else(p.1.frames ctl (zu p.2).1 (zu p.2).2.2,p.2.drop (zu p.2).2.1)
def LS.feed(ctl:LS→As→LS)(L:LS)(b s:List UInt8):LS×List UInt8:=if L.st=5 then({L with sent:=[],told:=[]},b)else LS.post ctl (L.pre b s)
structure LkI(w:World)(B:Nat)(V:Nat→Prop)(lb n:Nat)(b:List UInt8)(L:LS):Prop where
 ex:∃(gp:Nat) (p q r:Value) (RA:Option Addr) (rn rc:Nat) (F:Nat→Prop),
  Box w lb 61 #[.int .u8 (L.st:Int),.slice RA rn rc,.pointer (some ⟨gp,0,none⟩),.int .u64 (L.ch:Int),.int .u64 (L.sz:Int),p,q,r]∧Ga w F gp n L.g∧¬F lb∧(∀k,F k→V k)∧
  RdB w w.heap.size RA rn rc b∧(L.st=0→Own w B 5 1 RA rn rc (b.map u8v))∧(L.st≠0→L.st≠5→rc=rn)∧∀g,blk RA=some g→V g∧g≠lb∧¬F g
 lb:V lb
 v:∀k,V k→B≤k∧k<w.heap.size
def LMid(w:World)(B:Nat)(V:Nat→Prop)(lb n:Nat)(p:LS×List UInt8)(wx:World):Prop:=
 ∃(U T:Nat→Prop) (RA:Option Addr) (rn rc:Nat),LkM wx B U T lb n RA rn rc p.1∧RdB wx wx.heap.size RA rn rc p.2∧(p.1.st=0→Own wx B 5 1 RA rn rc (p.2.map u8v))∧
  (∀g,blk RA=some g→(B≤g∧g<wx.heap.size)∧¬U g∧¬T g∧(V g∨w.heap.size≤g))∧KeepF V w wx∧(∀k,U k→V k∨w.heap.size≤k)∧∀k,T k→V k∨w.heap.size≤k
def zbW(w:World)(B:Nat)(V:Nat→Prop)(lb n:Nat)(p:LS×List UInt8)(e:Ending)(w':World):Prop:=
 ∃(V':Nat→Prop) (TT:Option Addr) (tc:Nat) (th:List TAs),e= .returned (.tuple #[.string (str p.1.sent),.slice TT p.1.told.length tc])∧LkI w' B V' lb n p.2 p.1∧KeepF V w w'∧(∀k,V' k→V k∨w.heap.size≤k)∧
  p.1.told=th.map (·.a)∧OwnT w' B TT p.1.told.length tc th∧(∀g,blk TT=some g→¬V' g∧(V g∨w.heap.size≤g))∧∀x∈th,OwnG w' 0 x.A x.a.segs.length x.c x.a.segs∧∀g,blk x.A=some g→¬V' g∧(V g∨w.heap.size≤g)
theorem LkM.start{gp:Nat}{p:Value}{SA:Option Addr}{sc:Nat}{RA:Option Addr}{rn rc:Nat}{L:LS}(hL:L.told=[])
  (hb:Box w lb 61 #[.int .u8 (L.st:Int),.slice RA rn rc,.pointer (some ⟨gp,0,none⟩),.int .u64 (L.ch:Int),.int .u64 (L.sz:Int),p,.slice SA L.sent.length sc,.slice none 0 0]) (hp:p= .pointer none∨p=bPtr lb 5)
  (hs:Own w B 5 1 SA L.sent.length sc (L.sent.map u8v)) (hg:Ga w F gp n L.g) (nI:∀b,blk SA=some b→b≠lb∧¬F b) (eB:¬F lb) (hF:∀k,F k→B≤k) (dc:B≤lb):LkM w B (fun k=>k=lb∨F k∨blk SA=some k) (fun _=>False) lb n RA rn rc L where
 ex:=⟨gp,p,SA,sc,none,0,[],F,by rw[hL];exact hb,hp,hs,by rw[hL];exact Own.none_ _ _ _ _,by rw[hL];rfl,(fun x hx=>by cases hx),hg,fun b hb=>.inr (.inl hb),fun b hb=>⟨.inr (.inr hb),(nI b hb).1,(nI b hb).2,by simp⟩,(fun b hb=>by cases hb),eB⟩
 lb:=.inl rfl
 size:=Nat.le_trans dc (Nat.le_of_lt hb.lt)
 uB:=fun b bF=>by
  rcases bF with rfl|h|h
  ·exact⟨dc,hb.lt⟩
  ·exact⟨hF b h,hg.lt b h⟩
  exact hs.blk_lt h
 tB:=fun b h=>h.elim
 ut:=fun b h=>h.elim
theorem LkI.keep{w':World}{V G:Nat→Prop}{b:List UInt8}{L:LS}(h:LkI w B V lb n b L)(hk:KeepF G w w')(hG:∀k,V k→¬G k):LkI w' B V lb n b L where
 ex:=by
  obtain⟨gp,p,q,r,RA,rn,rc,F,h1,h2,h3,h4,h5,h6,h7,h8⟩:=h.ex;exact⟨gp,p,q,r,RA,rn,rc,F,zU h1 hk (hG _ h.lb),h2.keepF hk (fun k hk'=>hG k (h4 k hk')),h3,h4,(qH h5 hk (KL _) (fun g hg=>hG g (h8 g hg).1)).more hk.1,fun e=>zw (h6 e) hk (fun g hg=>hG g (h8 g hg).1),h7,h8⟩
 lb:=h.lb
 v:=fun k hk'=>⟨(h.v k hk').1,K2 (h.v k hk').2 hk.1⟩
theorem LkM.idle{U T:Nat→Prop}{RA:Option Addr}{rn rc:Nat}{L:LS}{b:List UInt8}(h:LkM w B U T lb n RA rn rc L)(hr:RdB w w.heap.size RA rn rc b)(h0:L.st=0→Own w B 5 1 RA rn rc (b.map u8v))(h5:L.st≠0→L.st≠5→rc=rn)
  (hB:∀g,blk RA=some g→(B≤g∧g<w.heap.size)∧¬U g∧¬T g):
  ∃(V':Nat→Prop) (TT:Option Addr) (tc:Nat) (th:List TAs) (p:Value) (SA:Option Addr) (sc:Nat) (cs:Array Value),LkI w B V' lb n b L∧(∀k,V' k→U k∨blk RA=some k)∧L.told=th.map (·.a)∧OwnT w B TT L.told.length tc th∧(∀g,blk TT=some g→U g∧¬V' g)∧(∀x∈th,OwnG w 0 x.A x.a.segs.length x.c x.a.segs∧∀g,blk x.A=some g→T g∧¬V' g)∧
   Box w lb 61 cs∧cs[6]?=some (.slice SA L.sent.length sc)∧cs[7]?=some (.slice TT L.told.length tc)∧Own w B 5 1 SA L.sent.length sc (L.sent.map u8v)∧∀g,blk SA=some g→U g∧¬V' g∧blk TT≠some g:=by
 obtain⟨gp,p,SA,sc,TT,tc,th,F,h1,h2,h3,h4,IW,h6,h7,h8,h9,dX,eS⟩:=h.ex;refine⟨fun k=>k=lb∨F k∨blk RA=some k,TT,tc,th,p,SA,sc,_,⟨⟨gp,p,_,_,RA,rn,rc,F,h1,h7,eS,fun k hk=>.inr (.inl hk),hr,h0,h5,fun g hg=>⟨.inr (.inr hg),fun e=>(hB g hg).2.1 (e▸h.lb),fun e=>(hB g hg).2.1 (h8 g e)⟩⟩,.inl rfl,fun k hk=>?_⟩,fun k hk=>?_,IW,h4,fun g hg=>⟨(dX g hg).1,fun e=>?_⟩,fun x hx=>⟨(h6 x hx).1,fun g hg=>⟨(h6 x hx).2 g hg,fun e=>?_⟩⟩,h1,rfl,rfl,h3,fun g hg=>⟨(h9 g hg).1,fun e=>?_,(h9 g hg).2.2.2⟩⟩
 ·rcases hk with rfl|e|e
  ·exact h.uB _ h.lb
  ·exact h.uB _ (h8 k e)
  exact(hB k e).1
 ·rcases hk with rfl|e|e
  ·exact .inl h.lb
  ·exact .inl (h8 k e)
  exact .inr e
 ·rcases e with e|e|e
  ·exact(dX g hg).2.1 e
  ·exact(dX g hg).2.2 e
  exact(hB g e).2.1 (dX g hg).1
 ·have ht:=(h6 x hx).2 g hg;rcases e with e|e|e
  ·exact h.ut g ht (e▸h.lb)
  ·exact h.ut g ht (h8 g e)
  exact(hB g e).2.2 ht
 rcases e with e|e|e
 ·exact(h9 g hg).2.1 e
 ·exact(h9 g hg).2.2.1 e
 exact(hB g e).2.1 (h9 g hg).1
theorem VX{ctl:LS→As→LS}{P:Nat→LS→Prop}{l:List Fr}{L:LS}{e:Nat}(bV:∀k M,P k M→M.st≠0)(hs:∀k M f,k<l.length→f∈l→P k M→P (k+1) (M.take ctl f))(h0:P 0 L):(L.frames ctl l e).st≠0:=by
 have hg:∀(r:List Fr) (k:Nat) (L:LS),k+r.length≤l.length→(∀f∈r,f∈l)→P k L→(L.goes ctl r).st≠0:=by
  intro r
  induction r with
  | nil=>intro k L _ _ h;exact bV k L h
  | cons f r ih=>
   intro k L hk hm h;by_cases h5:L.st=5
   ·rw[LS.goes_closed h5,h5];decide
   rw[LS.goes_cons ctl L f r h5];rw[k7]at hk;exact ih (k+1) _ Wq (fun g hg=>hm g (q6 _ hg)) (hs k L f Wq (hm f (q7 ..)) h)
 unfold LS.frames;split
 ·show(5:Nat)≠0;decide
 exact hg l 0 L Wq (fun _ h=>h) h0
theorem VY(ctl:LS→As→LS)(P:Nat→LS→Prop)(s b:List UInt8){V:Nat→Prop}{L:LS}(h:LkI w B V lb n b L)(he:MEnv w)(fL:0<B)(Bw:L.sz≤1000000)(dG:b.length≤100000000)(mF:s.length≤100000000)(LE:L.st<256)
  (de:n+(zu (L.pre b s).2).1.length<1000000000)
  (FF:∀k M,P k M→M.st≠0) (hP:∀k M,P k M→M.g.Inv∧M.sz≤1000000∧M.ch<65536∧M.sent.length≤10000000000∧M.told.length≤1000000000)
  (CT:∀k M f,k<(zu (L.pre b s).2).1.length→f∈(zu (L.pre b s).2).1→P k M→P (k+1) (M.take ctl f)) (pD:(L.pre b s).1.st≠0→(L.pre b s).1.st≠5→P 0 (L.pre b s).1) (nw:∀f∈(zu (L.pre b s).2).1,f.wf∧f.load.length≤1000000)
  (B5:∀k M f a A c W U' T' m RA' rn' rc',f∈(zu (L.pre b s).2).1→P k M→M.g.out f=some a→a.chan=0→LkM W B U' T' lb m RA' rn' rc' {M with g:=M.g.next f}→OwnG W 0 A a.segs.length c a.segs→(∀b,blk A=some b→T' b)→MEnv W→Below B w W→
   Calls prog 56 #[.pointer (some ⟨lb,0,none⟩),.agg (asV a.chan a.track A a.segs.length c)] W fun e w'=>e= .returned (.tuple #[])∧LStep W B U' T' lb m RA' rn' rc' (ctl {M with g:=M.g.next f} a) w'):
  Calls prog 12 #[.pointer (some ⟨lb,0,none⟩),.string (str s)] w (zbW w B V lb (n+(zu (L.pre b s).2).1.length) (L.feed ctl b s)):=by
 obtain⟨gp,p,q,r,RA,rn,rc,F,hb,cU,eB,tK,hr,ho,uo,mP⟩:=h.ex;have dc:=h.lb;have hV:=h.v;have c0:=hb.c0;have c2:=hb.c2;have bV:=qU lb L.st gp w c0 c2;have ik:=hr.length;by_cases h5:L.st=5
 ·have HF:L.feed ctl b s=({L with sent:=[],told:=[]},b):=by unfold LS.feed;rw[if_pos h5]
  rw[HF];rw[h5]at bV;rw[show((5:Nat):Int)=5 from rfl]at bV;have hI:LkI w B V lb (n+(zu (L.pre b s).2).1.length) b {L with sent:=[],told:=[]}:=⟨⟨gp,p,q,r,RA,rn,rc,F,hb,cU.mono Wq,eB,tK,hr,ho,uo,mP⟩,dc,hV⟩;clear B5 CT hP FF pD c0 c2 hb h5;go_enter func12,ntmps12;go_wp2_with(with_reducible refine h_A ?_);refine bV.mono ?_;rintro e w1 ⟨rfl,rfl⟩;go_wp2_with(with_reducible refine h_A ?_);go_ret2;exact⟨V,none,0,[],rfl,hI,KeepF.refl _ _,fun k hk=>.inl hk,rfl,Own.none_ _ _ _ _,(fun g hg=>by cases hg),(fun x hx=>by cases hx)⟩
 have HF:L.feed ctl b s=LS.post ctl (L.pre b s):=by unfold LS.feed;rw[if_neg h5]
 rw[HF];clear HF;obtain⟨pr,Ok⟩:∃p,p=L.pre b s:=⟨_,rfl⟩
 rw[←Ok]at de CT pD nw B5 ⊢;have Fi:=Q1 Ok;have uI:=Q1 B5;have GI:=Q1 CT;have HP:=Q1 hP;have uf:=Q1 FF;clear Ok B5 CT hP FF;obtain⟨Q,hq⟩:∃q,q=LS.post ctl pr:=⟨_,rfl⟩
 rw[←hq];have HQ:=Q1 hq;clear hq;obtain⟨m,hm⟩:∃m,m=n+(zu pr.2).1.length:=⟨_,rfl⟩
 rw[←hm];have HM:=Q1 hm;clear hm;have Dm:=Zt (off:=5) w _ hb Wz;have dD:=zi s;have g5:¬(L.st:Int)=5:=by omega
 go_enter func12,ntmps12;go_wp2_with(with_reducible refine h_B ?_);refine bV.mono ?_;rintro e w1 ⟨rfl,rfl⟩;clear bV;go_wp2_with(with_reducible refine h_B ?_);refine Dm.mono ?_;rintro e w1 ⟨rfl,bK,bN,cy⟩;clear Dm c0 c2 cy;replace bK:Box w1 lb 61 #[.int .u8 (L.st:Int),.slice RA rn rc,.pointer (some ⟨gp,0,none⟩),.int .u64 (L.ch:Int),.int .u64 (L.sz:Int),.pointer none,.slice none 0 0,r]:=bK;go_wp2_with(with_reducible refine h_B ?_);refine zc (xx rfl rfl rfl rfl bK (j:=7) (v:=.slice none 0 0) rfl Wj Wz ?_);intro w2 bF Hm ep;clear ep;replace bF:Box w2 lb 61 #[.int .u8 (L.st:Int),.slice RA rn rc,.pointer (some ⟨gp,0,none⟩),.int .u64 (L.ch:Int),.int .u64 (L.sz:Int),.pointer none,.slice none 0 0,.slice none 0 0]:=bF;have c1:=bF.c1;have bI:KeepF (fun k=>k=lb) w w2:=(KeepF.grown (F:=fun k=>k=lb) bN (fun g hg=>.inl Hq)).trans (KeepF.grown (F:=fun k=>k=lb) Hm (fun g hg=>.inl Hq)) (fun k hk=>.inl hk);have dS:KeepF V w w2:=bI.weak (fun g hg=>.inl (hg▸dc));have F2:Ga w2 F gp n L.g:=cU.keepF bI (fun k hk e=>eB (e▸hk));clear bN Hm hb bK
 have fY:Own w2 B 5 1 RA rn rc (b.map u8v)∨rc=rn∧Rd w2 w.heap.size 1 RA rn rn (b.map u8v):=by
  by_cases h0:L.st=0
  ·exact .inl (zw (ho h0) bI (fun g hg e=>(mP g hg).2.1 e))
  have ns:rc=rn:=uo h0 h5;subst ns;exact .inr ⟨rfl,qH hr bI (KL _) (fun g hg e=>(mP g hg).2.1 e)⟩
 have Bj:=fun(h0:L.st=0)=>zw (ho h0) bI (fun g hg e=>(mP g hg).2.1 e)
 go_wp2_with(with_reducible refine h_B ?_);refine zc (QC (base:=B) slB underlying9 rfl rfl rfl rfl fY bI.1 (by have:=(hV _ dc).1;have:=bF.lt;omega) Wq (fun g hg=>⟨(hV g (mP g hg).1).1,K2 (hV g (mP g hg).1).2 bI.1⟩) ?_);intro A2 c2 w3 cj eM H6 mr Et
 have eE:∀g,blk A2=some g→g≠lb∧¬F g∧(V g∨w.heap.size≤g):=fun g hg=>by
  refine⟨?_,?_,?_⟩
  ·rcases mr with e|e
   ·rw[e]at hg;exact(mP g hg).2.1
   have:=e g hg;have:=bF.lt;omega
  ·rcases mr with e|e
   ·rw[e]at hg;exact(mP g hg).2.2
   intro hF;have:=e g hg;have:=F2.lt g hF;omega
  rcases mr with e|e
  ·rw[e]at hg;exact .inl (mP g hg).1
  have:=e g hg;have:=dS.1;exact .inr Wq
 have bX:=bF.grown H6 (fun e=>(mP lb e.symm).2.1 rfl);clear c1;have c1:=bX.c1;go_wp2_with(with_reducible refine h_B ?_);refine zc (xx rfl rfl rfl rfl bX (j:=1) (v:=.slice A2 (rn+s.length) c2) rfl Wj Wz ?_);intro w4 dJ Ba eR;clear eR c1;replace dJ:Box w4 lb 61 #[.int .u8 (L.st:Int),.slice A2 (rn+s.length) c2,.pointer (some ⟨gp,0,none⟩),.int .u64 (L.ch:Int),.int .u64 (L.sz:Int),.pointer none,.slice none 0 0,.slice none 0 0]:=dJ;have re:KeepF (fun k=>k=lb) w3 w4:=KeepF.grown Ba (fun g hg=>.inl Hq);have eQ:KeepF V w w4:=(dS.trans (KeepF.grown (F:=V) H6 (fun g hg=>.inl (mP g hg).1)) (fun k hk=>.inl hk)).trans (re.weak (G:=V) (fun g hg=>.inl (hg▸dc))) (fun k hk=>.inl hk)
 have sD:L.st=0→Own w4 B 5 1 A2 (rn+s.length) c2 ((b++s).map u8v):=fun h0=>by
  have:=zw (eM (Bj h0)) re (fun g hg=>(eE g hg).1);rwa[←k8]at this
 have cQ:RdB w4 w4.heap.size A2 (rn+s.length) c2 (b++s):=by
  have:=(qH cj re (KL _) (fun g hg=>(eE g hg).1)).more re.1;rwa[←k8]at this
 have pK:Ga w4 F gp n L.g:=(F2.keepF (KeepF.grown (F:=fun k=>blk RA=some k) H6 (fun g hg=>.inl hg)) (fun k hk e=>(mP k e).2.2 hk)).keepF re (fun k hk e=>eB (e▸hk));have pN:∀g,blk A2=some g→(B≤g∧g<w4.heap.size)∧g≠lb∧¬F g∧(V g∨w.heap.size≤g):=fun g hg=>⟨⟨(Et g hg).1,K2 (Et g hg).2 re.1⟩,eE g hg⟩
 have wi:B≤lb:=(hV _ dc).1;have Ay:∀k,F k→B≤k:=fun k hk=>(hV k (tK k hk)).1
 have oW:∀g,V g→B≤g:=fun g e=>(hV g e).1
 have bL:B≤w.heap.size:=by have:=hV _ dc;omega
 have Wy:¬V 0:=fun e=>by have:=(hV _ e).1;omega
 have CC:MEnv w4:=he.onK eQ (fun e=>by have:=(hV _ e).1;omega);have iT:(b++s).length=rn+s.length:=by rw[KS,ik]
 have PT:rn+s.length≤200000000:=by omega
 clear bF bX eM H6 mr Ba F2 eE cU bI dS hr ho uo fY Bj cj re Et mP hV;have c0:=dJ.c0;go_upto_if 29 with fail
 have eg:pr.2.length≤200000000:=by
  rw[Fi.out];unfold LS.pre LS.beginL;split
  ·split
   ·show((b++s).drop 8).length≤_;rw[q8];omega
   split<;>(show(b++s).length≤_;omega)
  show(b++s).length≤_;omega
 generalize rn+s.length=N at*;go_cut []from 6 (fun wx=>LMid w B V lb n pr wx)
 case first=>
  have cT:=dJ;clear pD nw uI GI HP uf de HQ HM;by_cases h0:L.st=0
  ·have Gs:Hid (pr=LS.beginL {L with sent:=[],told:=[]} (b++s)):=Q1 (by rw[Fi.out];unfold LS.pre;rw[if_pos h0]);rw[h0]at cT c0;rw[show((0:Nat):Int)=0 from rfl]at cT c0;have RK:=sD h0;(have cW:0≠lb:=by omega);have nN:=cQ.max;have ns:=cQ.cap;clear Fi sD g5 h5;generalize b++s=r0 at*;by_cases q1:r0.take 8=hdrB
   ·have eG:=Zo lb L.sz B 0 0 N c2 w4.heap.size _ _ _ (.pointer none) A2 none [] r0 w4 CC cT cQ (KL _) Bw (.inl rfl) (Own.none_ w4 B 5 1) zAe (by have:=dJ.lt;omega) Wq Wq cW fL q1;have tT:Hid (pr=({L with st:=1,sent:=[]++hdrB++ctlB L.sz startB,told:=[]},r0.drop 8)):=Q1 (by rw[Gs.out];unfold LS.beginL;rw[if_pos q1]);clear Gs cT q1 RK;go_wp2_with(with_reducible refine h_A ?_);refine eG.mono ?_;rintro e w5 ⟨rfl,hN8,⟨A3,c3,di,lN,rO,ey⟩,Br⟩;clear eG;go_wp2_with(with_reducible refine h_A ?_);go_meet;rw[tT.out]
    have BX:∀k,blk A3=some k→w4.heap.size≤k:=fun k hk=>by
     rcases ey with e|e
     ·rw[e]at hk;cases hk
     exact e k hk
    have Ea:=dJ.lt;have EU:=pK.lt;have iO:Ga w5 F gp n L.g:=pK.keepF Br (fun k hk e=>by rcases e with e|e;exact eB (e▸hk);cases e);have hM:=LkM.start (L:={L with st:=1,sent:=[]++hdrB++ctlB L.sz startB,told:=[]}) rfl di (.inr rfl) lN iO Mx eB Ay wi
    have dv:RdB w5 w5.heap.size (cutA A2 1 8 c2) (N-8) (c2-8) (r0.drop 8):=by
     have h1:=RdB.cut (lo:=8) (k:=N-8) cQ Wq;rw[q0 mX]at h1;exact(qH h1 Br (KL _) (fun g hg e=>by rw[jw]at hg;rcases e with e|e;exact(pN g hg).2.1 e;cases e)).more Br.1
    refine⟨_,_,_,_,_,hM,dv,zAf,fun g hg=>?_,eQ.trans Br (fun k hk=>by rcases hk with e|e;exact .inl (e▸dc);cases e),fun k hk=>?_,fun k e=>e.elim⟩
    ·exact Z3h_
    exact Z56_
   by_cases q2:r0.length<8∧r0=hdrB.take r0.length
   ·have eG:=X9 lb L.sz B 0 0 N c2 w4.heap.size _ _ _ (.pointer none) A2 none [] r0 w4 CC cT cQ (KL _) Bw (.inl rfl) (Own.none_ w4 B 5 1) zAe (by have:=dJ.lt;omega) Wq Wq cW fL Wq (by rw[←iT];exact q2.2);have tT:Hid (pr=({L with sent:=[],told:=[]},r0)):=Q1 (by rw[Gs.out];unfold LS.beginL;rw[if_neg q1,if_pos q2]);clear Gs cT q1 q2;go_wp2_with(with_reducible refine h_A ?_);refine eG.mono ?_;rintro e w5 ⟨rfl,bw⟩;clear eG;go_wp2_with(with_reducible refine h_A ?_);go_meet;rw[tT.out];have hM:=LkM.start (L:={L with sent:=[],told:=[]}) rfl (dJ.below bw) (.inl rfl) (Own.none_ _ _ _ _) (pK.below bw) zAc eB Ay wi;have sh:KeepF V w4 w5:=.below bw;refine⟨_,_,_,_,_,hM,(cQ.below bw).more bw.size,fun _=>zh RK bw,fun g hg=>?_,eQ.trans sh (fun k hk=>.inl hk),fun k hk=>?_,fun k e=>e.elim⟩
    ·have h1:=pN g hg;refine⟨⟨h1.1.1,K2 h1.1.2 bw.size⟩,fun e=>?_,fun e=>e,h1.2.2.2⟩;rcases e with e|e|e
     ·exact h1.2.1 e
     ·exact h1.2.2.1 e
     cases e
    rcases hk with e|e|e
    ·exact .inl (e▸dc)
    ·exact .inl (tK k e)
    cases e
   have eG:=Z5 lb L.sz B 0 0 N c2 w4.heap.size _ _ _ (.pointer none) A2 none [] r0 w4 CC cT cQ (KL _) Bw (.inl rfl) (Own.none_ w4 B 5 1) zAe (by have:=dJ.lt;omega) Wq Wq cW fL (fun e=>by
    by_cases h8:N<8
    ·exact q2 ⟨by omega,by rw[iT,←e,q0 Wq]⟩
    ·exact q1 (by rw[e,q0 nZ]))
   have tT:Hid (pr=({L with st:=5,sent:=[]++hdrB,told:=[]},r0)):=Q1 (by rw[Gs.out];unfold LS.beginL;rw[if_neg q1,if_neg q2]);clear Gs cT q1 q2 RK;go_wp2_with(with_reducible refine h_A ?_);refine eG.mono ?_;rintro e w5 ⟨rfl,⟨A3,c3,di,lN,rO,ey⟩,Br⟩;clear eG;go_wp2_with(with_reducible refine h_A ?_);go_meet;rw[tT.out]
   have BX:∀k,blk A3=some k→w4.heap.size≤k:=fun k hk=>by
    rcases ey with e|e
    ·rw[e]at hk;cases hk
    exact e k hk
   have Ea:=dJ.lt;have EU:=pK.lt;have iO:Ga w5 F gp n L.g:=pK.keepF Br (fun k hk e=>by rcases e with e|e;exact eB (e▸hk);cases e);have hM:=LkM.start (L:={L with st:=5,sent:=[]++hdrB,told:=[]}) rfl di (.inr rfl) lN iO Mx eB Ay wi;refine⟨_,_,_,_,_,hM,(qH cQ Br (KL _) (fun g hg e=>by rcases e with e|e;exact(pN g hg).2.1 e;cases e)).more Br.1,zAf,fun g hg=>?_,eQ.trans Br (fun k hk=>by rcases hk with e|e;exact .inl (e▸dc);cases e),fun k hk=>?_,fun k e=>e.elim⟩
   ·have qqek:=();exact Z3h_
   exact Z56_
  have tT:Hid (pr=({L with sent:=[],told:=[]},b++s)):=Q1 (by rw[Fi.out];unfold LS.pre;rw[if_neg h0]);have g0:¬(L.st:Int)=0:=by omega
  clear Fi;go_wp2_with(with_reducible refine h_A ?_);go_meet;rw[tT.out];have hM:=LkM.start (L:={L with sent:=[],told:=[]}) rfl dJ (.inl rfl) (Own.none_ _ _ _ _) pK zAc eB Ay wi;refine⟨_,_,_,_,_,hM,cQ,sD,fun g hg=>?_,eQ,fun k hk=>?_,fun k e=>e.elim⟩
  ·have h1:=pN g hg;refine⟨h1.1,fun e=>?_,fun e=>e,h1.2.2.2⟩;rcases e with e|e|e
   ·exact h1.2.1 e
   ·exact h1.2.2.1 e
   cases e
  rcases hk with e|e|e
  ·exact .inl (e▸dc)
  ·exact .inl (tK k e)
  cases e
 clear dJ c0 pK pN sD cQ CC iT PT eQ Ay tK eB;obtain⟨U,T,RB,rm,rd,hM,dv,gj,ot,Br,GY,Ia⟩:=hcut;have c0:=hM.c0;have RY:=dv.length;go_upto_region 8 with fail;obtain⟨go,fH⟩:∃x,x=decide (¬pr.1.st=0∧¬pr.1.st=5):=⟨_,rfl⟩
 have iA:=Q1 fH;clear fH;go_cut [43]from 6 (fun s43 wx=>s43= .bool go∧wc=wx)
 case first=>
  clear Fi HP GI uf uI HQ HM pD nw de dv gj hM;by_cases p0:pr.1.st=0
  ·(obtain rfl:go=false:=by rw[iA.out];simp[p0]);rw[p0]at c0;rw[show((0:Nat):Int)=0 from rfl]at c0;clear p0 iA;exact Z65_
  have d0:((pr.1.st:Int)!=0)=true:=by simp;omega
  by_cases p5:pr.1.st=5
  ·(obtain rfl:go=false:=by rw[iA.out];simp[p5]);rw[p5]at c0;rw[show((5:Nat):Int)=5 from rfl]at c0;exact Z5q_
  obtain rfl:go=true:=by rw[iA.out];simp[p0,p5]
  have d5:((pr.1.st:Int)!=5)=true:=by simp;omega
  exact Z5q_
 case rest=>
 obtain⟨rfl,rfl⟩:=hcut;clear c0;go_upto_if 43 with fail
 go_cut []from 6 (fun wx=>∃(U T:Nat→Prop) (RA:Option Addr) (rn rc:Nat),LkM wx B U T lb m RA rn rc Q.1∧RdB wx wx.heap.size RA rn rc Q.2∧(Q.1.st=0→Own wx B 5 1 RA rn rc (Q.2.map u8v))∧(Q.1.st≠0→Q.1.st≠5→rc=rn)∧
  (∀g,blk RA=some g→(B≤g∧g<wx.heap.size)∧¬U g∧¬T g∧(V g∨w.heap.size≤g))∧KeepF V w wx∧(∀k,U k→V k∨w.heap.size≤k)∧∀k,T k→V k∨w.heap.size≤k)
 case first=>
  by_cases p0:pr.1.st=0
  ·have ib:Hid (Q=pr):=Q1 (by rw[HQ.out];unfold LS.post;rw[if_pos (.inl p0)]);(obtain rfl:go=false:=by rw[iA.out];simp[p0]);go_wp2_with(with_reducible refine h_A ?_);go_meet;rw[ib.out];exact⟨U,T,RB,rm,rd,hM.mono (by have:=HM.out;omega),dv,gj,fun e=>absurd p0 e,ot,Br,GY,Ia⟩
  by_cases p5:pr.1.st=5
  ·have ib:Hid (Q=pr):=Q1 (by rw[HQ.out];unfold LS.post;rw[if_pos (.inr p5)]);(obtain rfl:go=false:=by rw[iA.out];simp[p5]);go_wp2_with(with_reducible refine h_A ?_);go_meet;rw[ib.out];exact⟨U,T,RB,rm,rd,hM.mono (by have:=HM.out;omega),dv,gj,fun _ e=>absurd p5 e,ot,Br,GY,Ia⟩
  have ib:Hid (Q=(pr.1.frames ctl (zu pr.2).1 (zu pr.2).2.2,pr.2.drop (zu pr.2).2.1)):=Q1 (by rw[HQ.out];unfold LS.post;rw[if_neg Wq]);have nt:=Qt ctl P pr.2 hM dv (fun g hg=>(ot g hg).2.1) Wq (by have:=(vn pr.2).2;omega) de (he.onK Br Wy) fL HP.out GI.out (pD p0 p5) nw (fun k M f a A c W U' T' m RA' rn' rc' e1 e2 e3 e4 e5 e6 e7 e8 e9=>uI.out k M f a A c W U' T' m RA' rn' rc' e1 e2 e3 e4 e5 e6 e7 e8 ((Br.toBelow bL oW).trans e9));obtain rfl:go=true:=by rw[iA.out];simp[p0,p5]
  have mY:Hid (pr.1.st≠0→pr.1.st≠5→(pr.1.frames ctl (zu pr.2).1 (zu pr.2).2.2).st≠0):=Q1 (fun p0 p5=>VX uf.out GI.out (pD p0 p5));clear HP GI uI pD nw uf;go_wp2_with(with_reducible refine h_A ?_);refine nt.mono ?_;rintro e w6 ⟨rfl,RA',⟨U',T',CU,hk',nT,sE⟩,U7,dG⟩;clear nt;go_wp2_with(with_reducible refine h_A ?_);go_meet;rw[ib.out];refine⟨U',T',RA',_,_,by rw[HM.out];exact CU,U7,fun e=>?_,fun _ _=>rfl,fun g hg=>?_,Br.trans hk' GY,fun k hk=>?_,fun k hk=>?_⟩
  ·exact absurd e (mY.out p0 p5)
  ·have h1:=ot g (by rcases dG with e|e;rw[←e];exact hg;rw[e]at hg;cases hg);have hz:=hk'.1;refine⟨⟨h1.1.1,K2 h1.1.2 hz⟩,fun e=>?_,fun e=>?_,h1.2.2.2⟩
   ·rcases nT g e with e|e
    ·exact h1.2.1 e
    omega
   rcases sE g e with e|e|e
   ·exact h1.2.2.1 e
   ·exact h1.2.1 e
   omega
  ·have hz:=Br.1;rcases nT k hk with e|e
   ·exact GY k e
   exact .inr Wq
  have hz:=Br.1;rcases sE k hk with e|e|e
  ·exact Ia k e
  ·exact GY k e
  exact .inr Wq
 clear hM dv gj ot Br GY Ia Fi HP GI uf uI pD nw eg RY de;obtain⟨U,T,RA,rn,rc,hM,md,lN,TL,r5,il,SW,hT6⟩:=hcut;obtain⟨V',TT,tc,th,p,SA,sc,cs,hI,hV',La,G2,S3,Tm,dh,e6,e7,T9,nI⟩:=hM.idle md lN TL (fun g hg=>⟨(r5 g hg).1,(r5 g hg).2.1,(r5 g hg).2.2.1⟩);have Nv:=hM.ut;have aG:=Q1 La;clear La hM md lN TL;go_wp2;refine zt (fun W:World=>Box W lb 61 cs) Wj ?_;have hS:Box wc.drew lb 61 cs:=dh;have lL:Own wc.drew B 5 1 SA Q.1.sent.length sc (Q.1.sent.map u8v):=T9;have im:KeepF V wc wc.drew:=.below (za (Below.refl _ _) 1);have Uf:LkI wc.drew B V' lb m Q.2 Q.1:=hI.keep (G:=fun _=>False) (.below (za (Below.refl _ _) 1)) (fun _ _ e=>e);have Sb:OwnT wc.drew B TT Q.1.told.length tc th:=G2;have Cl:∀x∈th,OwnG wc.drew 0 x.A x.a.segs.length x.c x.a.segs∧∀g,blk x.A=some g→T g∧¬V' g:=Tm
 have iI:=il.trans im (fun k hk=>.inl hk);have hzc:w.heap.size≤wc.drew.heap.size:=iI.1;clear dh T9 im hI G2 Tm il;generalize wc.drew=w7 at*;have t6:=Za (off:=5) (n:=Q.1.sent.length) (c:=sc) w7 cs hS SA Q.1.sent e6 lL;refine rg_t 0 hS ?_;simp only[k9,q9,Act.put,vv,vz,v0];refine rg_t 1 hS ?_;simp only[g_S];refine rg_t 2 hS ?_;simp only[g_S];refine rg_t 4 hS ?_;simp only[g_S];refine rg_t 5 hS ?_;simp only[g_S];refine rg_t 6 hS ?_;simp only[g_S];refine ze 7 (v:=?_) rfl Wj Wj Wj hS rfl ?_ ?_;rotate_left
 ·intro wS He;have k0:=He.cell e7;go_simp;(with_reducible rfl)
 simp only[g_S];refine zj 3 rfl Wj rfl (fun K hK=>?_);go_simp
 (with_reducible refine t6.mono ?_)
 rintro e w8 ⟨rfl,gz⟩;have TB:∀k,V' k→¬blk SA=some k:=fun k hk e=>(nI k e).2.1 hk
 have cE:=zU hS gz (TB _ Uf.lb);refine hK _ _ cE ?_;clear hK K;try simp only[g_S]
 refine rg_t 8 cE ?_;simp only[g_S];refine rg_t 9 cE ?_;simp only[g_S];refine zz Wj ?_;go_wp2_with(with_reducible refine h_B ?_);go_ret2;refine⟨V',TT,tc,th,rfl,Uf.keep gz TB,iI.trans gz (fun k hk=>SW k (nI k hk).1),fun k hk=>?_,aG.out,zw Sb gz (fun g hg e=>(nI g e).2.2 hg),fun g hg=>⟨(S3 g hg).2,SW g (S3 g hg).1⟩,fun x hx=>⟨zw (Cl x hx).1 gz (fun g hg e=>Nv g ((Cl x hx).2 g hg).1 (nI g e).1),fun g hg=>⟨((Cl x hx).2 g hg).2,hT6 g ((Cl x hx).2 g hg).1⟩⟩⟩;rcases hV' k hk with e|e
 ·exact SW k e
 exact(r5 k e).2.2.2
theorem zcS{gp:Nat}(hb:Box w lb 61 (lk0 gp))(cU:Ga w F gp 0 GS.new)(eB:¬F lb)(hF:∀k,F k→B≤k)(dc:B≤lb):LkI w B (fun k=>k=lb∨F k) lb 0 [] ⟨0,255,4096,GS.new,[],[]⟩where
 ex:=⟨gp,_,_,_,none,0,0,F,hb,cU,eB,fun k h=>.inr h,Rd.nil _ _ _ _ WX _,fun _=>Own.none_ _ _ _ _,fun h=>absurd rfl h,fun g hg=>by cases hg⟩
 lb:=.inl rfl
 v:=fun k hk=>by
  rcases hk with rfl|h
  ·exact⟨dc,hb.lt⟩
  exact⟨hF k h,cU.lt k h⟩
end Go.PH
section
namespace Go.PH
theorem J4(l:List Fr):(xw l).length≤12*l.length+zI l:=by
 induction l with
 | nil=>simp[xw,zI]
 | cons f r ih=>
  have e:xw (f::r)=f.put++xw r:=rfl
  have hp:f.put.length≤12+f.load.length:=by
   unfold Fr.put;split
   ·rw[f.bytes_length];omega
   simp
  rw[e,KS,k7,zI];omega
theorem XO(most chan track n:Nat):∀(l:List Sg) (i:Nat),zI (cutL most chan track n i l)=yK l
 | [],_=>by simp[cutL,zI,yK]
 | s::r,i=>by rw[cutL,qy,Y4,XO most chan track n r,yK]
theorem jj(sz:Nat)(bs:List UInt8):(ctlB sz bs).length≤13*bs.length+12:=by
 unfold ctlB jA;have h:=J4 (cutF ((sz:Int)-12) ⟨0,0,[⟨0,bs⟩]⟩);unfold cutF at h ⊢;split at h
 ·rename_i hc
  rw[if_pos hc];unfold xa at hc;split at hc
  ·omega
  have hm:1≤((sz:Int)-12).toNat:=by omega
  have h1:(vq ((sz:Int)-12).toNat ⟨0,0,[⟨0,bs⟩]⟩).length≤bs.length+1:=by
   have:=YA ((sz:Int)-12).toNat 0 0 1 hm [⟨0,bs⟩] 0;simpa[vq,yK]using this
  have h2:zI (vq ((sz:Int)-12).toNat ⟨0,0,[⟨0,bs⟩]⟩)=bs.length:=by
   have:=XO ((sz:Int)-12).toNat 0 0 1 [⟨0,bs⟩] 0;simpa[vq,yK]using this
  omega
 rename_i hc
 rw[if_neg hc];simp[xw]
structure LB(S N k:Nat)(M:LS):Prop where
 kn:k≤N
 inv:M.g.Inv
 sz:M.sz≤4096
 ch:M.ch≤255
 st:M.st≠0
 st':M.st<256
 sent:M.sent.length≤S+20000*k
 told:M.told.length≤k
theorem LB.close{S N k:Nat}{M:LS}(h:LB S N k M)(hk:k<N)(code:Nat)(text:List UInt8)(ht:text.length≤100):LB S N (k+1) (M.close code text)where
 kn:=hk
 inv:=h.inv
 sz:=h.sz
 ch:=h.ch
 st:=by show(5:Nat)≠0;decide
 st':=by show(5:Nat)<256;decide
 sent:=by
  have h1:=jj M.sz (qx code text);have h2:=h.sent;have h3:(qx code text).length≤107:=by simp[qx,zr];omega
  show(M.sent++ctlB M.sz (qx code text)).length≤_
  rw[KS];omega
 told:=by have:=h.told;show M.told.length≤_;omega
theorem LB.sends{S N k:Nat}{M:LS}(h:LB S N k M)(hk:k<N)(bs:List UInt8)(hb:bs.length≤100)(st:Nat)(h0:st≠0)(h1:st<256):LB S N (k+1) {M.send bs with st:=st}where
 kn:=hk
 inv:=h.inv
 sz:=h.sz
 ch:=h.ch
 st:=h0
 st':=h1
 sent:=by
  have h1:=jj M.sz bs;have h2:=h.sent;show(M.sent++ctlB M.sz bs).length≤_
  rw[KS];omega
 told:=by have:=h.told;show M.told.length≤_;omega
theorem LB.more{S N k:Nat}{M:LS}(h:LB S N k M)(hk:k<N):LB S N (k+1) M where
 kn:=hk
 inv:=h.inv
 sz:=h.sz
 ch:=h.ch
 st:=h.st
 st':=h.st'
 sent:=by have:=h.sent;omega
 told:=by have:=h.told;omega
theorem LB.ctlM{S N k:Nat}{M:LS}(h:LB S N k M)(hk:k<N)(a:As)(m:Mt)(er:Int):LB S N (k+1) (M.ctlM a m er):=by
 unfold LS.ctlM;split
 ·exact h.close hk _ _ WJ
 split
 ·exact h.sends hk _ WJ 2 WJ WJ
 split
 ·unfold LS.tuned;split
  ·exact h.close hk _ _ WJ
  rename_i hn
  have h1:=h.more hk;exact⟨h1.kn,h1.inv,by show(m.args.getD 1 (ag0 false)).n≤4096;omega,by show(m.args.getD 0 (ag0 false)).n≤255;omega,by show(3:Nat)≠0;decide,by show(3:Nat)<256;decide,h1.sent,h1.told⟩
 split
 ·unfold LS.opened;split
  ·exact h.close hk _ _ WJ
  exact h.sends hk _ WJ 4 WJ WJ
 split
 ·exact h.sends hk _ WJ 5 WJ WJ
 exact h.close hk _ _ WJ
theorem LB.take{S N k:Nat}{M:LS}(h:LB S N k M)(hk:k<N){f:Fr}(hf:f.wf)(ctl:LS→As→LS)(B5:∀(L:LS) (a:As),LB S N k L→LB S N (k+1) (ctl L a)):LB S N (k+1) (M.take ctl f):=by
 have hn:LB S N k {M with g:=M.g.next f}:=⟨h.kn,h.inv.next hf,h.sz,h.ch,h.st,h.st',h.sent,h.told⟩;unfold LS.take;split
 ·exact h.close hk _ _ WJ
 split
 ·split
  ·exact hn.more hk
  exact hn.close hk _ _ WJ
 split
 ·exact B5 _ _ hn
 split
 ·have h1:=hn.more hk;exact⟨h1.kn,h1.inv,h1.sz,h1.ch,h1.st,h1.st',h1.sent,by have:=h.told;show(M.told++ [_]).length≤_;rw[KS];simp;omega⟩
 exact hn.close hk _ _ WJ
theorem LB.bounds{S N k:Nat}{M:LS}(hS:S≤1000000000)(hN:N≤400000)(h:LB S N k M):M.g.Inv∧M.sz≤1000000∧M.ch<65536∧M.sent.length≤10000000000∧M.told.length≤1000000000:=by
 have h1:=h.kn;have h2:=h.sz;have h3:=h.ch;have h4:=h.sent;have h5:=h.told;exact⟨h.inv,by omega,by omega,by omega,by omega⟩
theorem Yt:zu []=([],0,0):=xd WJ WJ
end Go.PH
end
namespace Go.PH
open Go.RowKit Go.Proofs Go.Proofs.Tryz
variable {B base c lb n : Nat} {F : Nat → Prop} {A : Option Addr} {w wr wr' : World}
section
def LS.lead(L:LS)(s:List UInt8)(t:List As):LS:={L with sent:=s++L.sent,told:=t++L.told}
def LS.core(L:LS):LS:={L with sent:=[],told:=[]}
theorem LS.core_lead(L:LS):L.core.lead L.sent L.told=L:=by
 cases L;simp[LS.core,LS.lead]
theorem LS.lead_close(L:LS)(c:Nat)(x s:List UInt8)(t:List As):(L.lead s t).close c x=(L.close c x).lead s t:=by
 simp[LS.lead,LS.close]
theorem LS.lead_send(L:LS)(b s:List UInt8)(t:List As):(L.lead s t).send b=(L.send b).lead s t:=by
 simp[LS.lead,LS.send]
theorem LS.lead_ctlM(L:LS)(a:As)(m:Mt)(er:Int)(s:List UInt8)(t:List As):(L.lead s t).ctlM a m er=(L.ctlM a m er).lead s t:=by
 have h:(L.lead s t).st=L.st:=rfl;unfold LS.ctlM;rw[h,LS.lead_close];split
 ·rfl
 split
 ·rw[LS.lead_send];rfl
 split
 ·unfold LS.tuned;rw[LS.lead_close];split<;>rfl
 split
 ·unfold LS.opened;rw[LS.lead_close,LS.lead_send];split<;>rfl
 split
 ·rw[LS.lead_send];rfl
 rfl
structure CtlOk(ctl:LS→As→LS):Prop where
 lead:∀L a s t,ctl (LS.lead L s t) a=(ctl L a).lead s t
 st:∀L a,L.st≠0→(ctl L a).st≠0
theorem LS.ctlM_st(L:LS)(a:As)(m:Mt)(er:Int)(h:L.st≠0):(L.ctlM a m er).st≠0:=by
 unfold LS.ctlM;split
 ·show(5:Nat)≠0;decide
 split
 ·show(2:Nat)≠0;decide
 split
 ·unfold LS.tuned;split
  ·show(5:Nat)≠0;decide
  show(3:Nat)≠0;decide
 split
 ·unfold LS.opened;split
  ·show(5:Nat)≠0;decide
  show(4:Nat)≠0;decide
 split
 ·show(5:Nat)≠0;decide
 show(5:Nat)≠0;decide
section
variable {ctl : LS → As → LS} (hc : CtlOk ctl)
include hc
theorem XT(L:LS)(f:Fr)(s:List UInt8)(t:List As):(L.lead s t).take ctl f=(L.take ctl f).lead s t:=by
 unfold LS.take;have h1:(L.lead s t).sz=L.sz:=rfl;have h2:(L.lead s t).ch=L.ch:=rfl;have h3:(L.lead s t).g=L.g:=rfl;have h4:(L.lead s t).st=L.st:=rfl;rw[h1,h2,h3,h4,LS.lead_close];split
 ·rfl
 split
 ·split
  ·rfl
  exact LS.lead_close {L with g:=L.g.next f} _ _ _ _
 split
 ·exact hc.lead {L with g:=L.g.next f} _ _ _
 split
 ·simp[LS.lead]
 exact LS.lead_close {L with g:=L.g.next f} _ _ _ _
theorem V8(L:LS)(f:Fr)(h:L.st≠0):(L.take ctl f).st≠0:=by
 unfold LS.take;split
 ·show(5:Nat)≠0;decide
 split
 ·split
  ·exact h
  show(5:Nat)≠0;decide
 split
 ·exact hc.st _ _ h
 split
 ·exact h
 show(5:Nat)≠0;decide
theorem XU(s:List UInt8)(t:List As):∀(l:List Fr) (L:LS),(L.lead s t).goes ctl l=(L.goes ctl l).lead s t
 | [],_=>rfl
 | f::l,L=>by
  by_cases h:L.st=5
  ·rw[LS.goes_closed h,LS.goes_closed (L:=L.lead s t) h]
  rw[LS.goes_cons ctl L f l h,LS.goes_cons ctl (L.lead s t) f l h,XT hc,XU s t l]
theorem V9:∀(l:List Fr) (L:LS),L.st≠0→(L.goes ctl l).st≠0
 | [],_,h=>h
 | f::l,L,h=>by
  by_cases h5:L.st=5
  ·rw[LS.goes_closed h5];exact h
  rw[LS.goes_cons ctl L f l h5];exact V9 l _ (V8 hc L f h)
theorem QE(L:LS)(l:List Fr)(e:Nat)(s:List UInt8)(t:List As):(L.lead s t).frames ctl l e=(L.frames ctl l e).lead s t:=by
 unfold LS.frames;rw[XU hc];have h:((L.goes ctl l).lead s t).st=(L.goes ctl l).st:=rfl;rw[h,LS.lead_close];split<;>rfl
theorem Kc(L:LS)(l:List Fr)(e:Nat)(h:L.st≠0):(L.frames ctl l e).st≠0:=by
 unfold LS.frames;split
 ·show(5:Nat)≠0;decide
 exact V9 hc l L h
theorem zaa(p:LS×List UInt8)(s:List UInt8)(t:List As):LS.post ctl (p.1.lead s t,p.2)=((LS.post ctl p).1.lead s t,(LS.post ctl p).2):=by
 unfold LS.post;have h:(p.1.lead s t).st=p.1.st:=rfl;simp only[h];split
 ·rfl
 rw[QE hc]
theorem zbC(L:LS)(r s:List UInt8)(h0:L.st≠0)(h5:L.st≠5):
  ((LS.post ctl (L,r)).1.st=5∧(LS.post ctl (L,r++s)).1=(LS.post ctl (L,r)).1)∨
  ((LS.post ctl (L,r)).1.st≠5∧(LS.post ctl (L,r)).1.st≠0∧LS.post ctl (L,r++s)=LS.post ctl ((LS.post ctl (L,r)).1,(LS.post ctl (L,r)).2++s)):=by
 have e1:∀x,LS.post ctl (L,x)=(L.frames ctl (zu x).1 (zu x).2.2,x.drop (zu x).2.1):=fun x=>by
  unfold LS.post;simp only;rw[if_neg Wq]
 rw[e1 r,e1 (r++s)];obtain⟨ha,hb⟩:=J9 r s;have bV:=Kc hc L (zu r).1 (zu r).2.2 h0;by_cases he:(zu r).2.2=0
 ·have h1:=ha he;have e2:L.frames ctl (zu r).1 (zu r).2.2=L.goes ctl (zu r).1:=by unfold LS.frames;rw[if_neg (fun h=>h.1 he)]
  by_cases hq:(L.goes ctl (zu r).1).st=5
  ·left;simp only;rw[e2];refine⟨hq,?_⟩;rw[h1];unfold LS.frames;simp only;rw[LS.goes_append,LS.goes_closed hq,if_neg (fun h=>h.2 hq)]
  right;simp only;rw[e2]at bV ⊢;refine⟨hq,bV,?_⟩;unfold LS.post;simp only;rw[if_neg Wq,h1];simp only
  have e3:∀l e,L.frames ctl ((zu r).1++l) e=(L.goes ctl (zu r).1).frames ctl l e:=fun l e=>by
   unfold LS.frames;rw[LS.goes_append]
  rw[e3,←List.drop_drop,v1 (vn r).2]
 left;rw[hb he];refine⟨?_,rfl⟩;simp only;unfold LS.frames;split
 ·rfl
 rename_i h
 exact Classical.byContradiction fun h'=>h ⟨he,h'⟩
theorem zbD(L:LS)(b s1 s2:List UInt8):
  (LS.feed ctl L b (s1++s2)).1=(LS.feed ctl (LS.feed ctl L b s1).1 (LS.feed ctl L b s1).2 s2).1.lead (LS.feed ctl L b s1).1.sent (LS.feed ctl L b s1).1.told∧
  ((LS.feed ctl L b (s1++s2)).1.st≠5→(LS.feed ctl L b (s1++s2)).2=(LS.feed ctl (LS.feed ctl L b s1).1 (LS.feed ctl L b s1).2 s2).2):=by
 by_cases h5:L.st=5
 ·have e:∀s,LS.feed ctl L b s=(L.core,b):=fun s=>by unfold LS.feed;rw[if_pos h5];rfl
  have e':∀s,LS.feed ctl L.core b s=(L.core,b):=fun s=>by unfold LS.feed;rw[if_pos (by exact h5)];rfl
  rw[e,e];simp only;rw[e'];exact⟨rfl,fun _=>rfl⟩
 have e:∀s,LS.feed ctl L b s=LS.post ctl (L.pre b s):=fun s=>by unfold LS.feed;rw[if_neg h5]
 rw[e,e]
 have fH:∀(M:LS) (r:List UInt8),M.st≠0→M.st≠5→
   (LS.post ctl (M,r++s2)).1=(LS.feed ctl (LS.post ctl (M,r)).1 (LS.post ctl (M,r)).2 s2).1.lead (LS.post ctl (M,r)).1.sent (LS.post ctl (M,r)).1.told∧
   ((LS.post ctl (M,r++s2)).1.st≠5→(LS.post ctl (M,r++s2)).2=(LS.feed ctl (LS.post ctl (M,r)).1 (LS.post ctl (M,r)).2 s2).2):=by
  intro M r m0 m5;rcases zbC hc M r s2 m0 m5 with⟨q1,q2⟩|⟨q1,q2,q3⟩
  ·generalize LS.post ctl (M,r)=p at*;(have e2:LS.feed ctl p.1 p.2 s2=(p.1.core,p.2):=by unfold LS.feed;rw[if_pos q1];rfl);rw[e2,q2];exact⟨(LS.core_lead _).symm,fun h=>absurd q1 h⟩
  ·rw[q3];generalize LS.post ctl (M,r)=p at*;(have e2:LS.feed ctl p.1 p.2 s2=LS.post ctl (p.1.core,p.2++s2):=by unfold LS.feed LS.pre;rw[if_neg q1,if_neg q2];rfl);have e3:=zaa hc (p.1.core,p.2++s2) p.1.sent p.1.told;simp only at e3;rw[LS.core_lead]at e3;rw[e2,e3];exact⟨rfl,fun _=>rfl⟩
 by_cases h0:L.st=0
 ·have hp:∀s,L.pre b s=LS.beginL L.core (b++s):=fun s=>by unfold LS.pre;rw[if_pos h0];rfl
  rw[hp,hp,←K1];generalize b++s1=r;unfold LS.beginL;by_cases q1:r.take 8=hdrB
  ·have ss:8≤r.length:=by
    have:=congrArg q4 q1;rw[List.length_take]at this;have:hdrB.length=8:=rfl;omega
   rw[if_pos q1,if_pos (by rw[v2 ss];exact q1),v1 ss];exact fH _ _ zAf zAf
  rw[if_neg q1];by_cases q2:r.length<8∧r=hdrB.take r.length
  ·rw[if_pos q2];(have e2:LS.post ctl (L.core,r)=(L.core,r):=by unfold LS.post;rw[if_pos (.inl h0)]);rw[e2]
   have e3:LS.feed ctl L.core r s2=LS.post ctl (LS.beginL L.core (r++s2)):=by
    unfold LS.feed LS.pre;rw[if_neg (by exact h5),if_pos (by exact h0)];rfl
   simp only;rw[e3];unfold LS.beginL;exact⟨by simp[LS.lead,LS.core],fun _=>rfl⟩
  rw[if_neg q2]
  have k1:¬(r++s2).take 8=hdrB:=fun e=>by
   by_cases hl:8≤r.length
   ·rw[v2 hl]at e;exact q1 e
   refine q2 ⟨by omega,?_⟩;have:=congrArg (List.take r.length) e;rw[v3,v4 Wq,v5 rfl]at this;exact this
  have k2:¬((r++s2).length<8∧r++s2=hdrB.take (r++s2).length):=fun e=>by
   rw[KS]at e;refine q2 ⟨by omega,?_⟩;have:=congrArg (List.take r.length) e.2;rw[v3,v4 Wq,v5 rfl]at this;exact this
  rw[if_neg k1,if_neg k2];have e2:∀x:List UInt8,LS.post ctl ({L.core with st:=5,sent:=L.core.sent++hdrB},x)=({L.core with st:=5,sent:=L.core.sent++hdrB},x):=fun x=>by unfold LS.post;rw[if_pos (.inr rfl)]
  rw[e2,e2];simp only;have e3:∀M:LS,M.st=5→LS.feed ctl M r s2=(M.core,r):=fun M hm=>by unfold LS.feed;rw[if_pos hm];rfl
  rw[e3 _ rfl];exact⟨(LS.core_lead _).symm,fun h=>absurd rfl h⟩
 have hp:∀s,L.pre b s=(L.core,b++s):=fun s=>by unfold LS.pre;rw[if_neg h0];rfl
 rw[hp,hp,←K1];exact fH _ _ h0 h5
end
end
theorem QH(th th':List TAs)(A:Option Addr)(n c:Nat)(A':Option Addr)(n' c':Nat)(w:World)(hr:Rd w w.heap.size 3 A n c (rowC taC th))(i5:Rd w w.heap.size 3 A' n' c' (rowC taC th'))
  (hE:∀x∈th,RdG w w.heap.size x.A x.a.segs.length x.c x.a.segs) (Uk:∀x∈th',RdG w w.heap.size x.A x.a.segs.length x.c x.a.segs) (hs:th.map (·.a)=th'.map (·.a)) (hn:n≤140737488351232):
  Calls prog 14 #[.slice A n c,.slice A' n' c'] w fun e w'=>e= .returned (.bool true)∧Below w.heap.size w w':=by
 have hl:=yM kE hr;have iV:=yM kE i5;obtain rfl:n'=n:=by have:=congrArg q4 hs;simp only[kI]at this;omega
 have HR:=Q1 hr;have HR':=Q1 i5;have HE:=Q1 hE;have HE':=Q1 Uk;have HS:=Q1 hs;clear hr i5 hE Uk hs;go_enter func14,ntmps14;go_wp2_with(with_reducible refine h_A ?_);go_loopw [5] (fun s wr=>∃k:Nat,k≤n'∧s= .int .i64 (k:Int)∧Below w.heap.size w wr) (fun s _=>n'-(RowKit.intOf s).toNat)
 case atStart=>exact⟨0,by omega,rfl,Below.refl _ _⟩
 obtain⟨k,hk,rfl,hB⟩:=hrel;by_cases hlt:k<n'
 ·have g1:(k:Int)<(n':Int):=by omega
  obtain⟨b,off,rfl,dx,bI,bC⟩:=xF kE HR.out hlt;obtain⟨b',off',rfl,ua,ov,Am⟩:=xF kE HR'.out hlt
  have he:th[k].a=th'[k].a:=by
   (have h1:(th.map (·.a))[k]?=(th'.map (·.a))[k]?:=by rw[HS.out]);simpa[bI,ov]using h1
  have hx:=HE.out _ (Vy bI);have nH:=HE'.out _ (Vy ov);generalize th[k]=x at*;generalize th'[k]=y at*
  have dk:∀W,Below w.heap.size w W→W.cell? ⟨b,off+k*3,none⟩=some (.int .u16 (x.a.chan:Int))∧W.cell? ⟨b,off+k*3+1,none⟩=some (.int .u8 (x.a.track:Int))∧W.cell? ⟨b,off+k*3+2,none⟩=some (.slice x.A x.a.segs.length x.c):=
   fun W hW=>⟨(hW.cell (p:=⟨b,off+k*3,none⟩) dx).trans (bC 0 _ rfl),(hW.cell (p:=⟨b,off+k*3+1,none⟩) dx).trans (bC 1 _ rfl),(hW.cell (p:=⟨b,off+k*3+2,none⟩) dx).trans (bC 2 _ rfl)⟩
  have pH:∀W,Below w.heap.size w W→W.cell? ⟨b',off'+k*3,none⟩=some (.int .u16 (y.a.chan:Int))∧W.cell? ⟨b',off'+k*3+1,none⟩=some (.int .u8 (y.a.track:Int))∧W.cell? ⟨b',off'+k*3+2,none⟩=some (.slice y.A y.a.segs.length y.c):=
   fun W hW=>⟨(hW.cell (p:=⟨b',off'+k*3,none⟩) ua).trans (Am 0 _ rfl),(hW.cell (p:=⟨b',off'+k*3+1,none⟩) ua).trans (Am 1 _ rfl),(hW.cell (p:=⟨b',off'+k*3+2,none⟩) ua).trans (Am 2 _ rfl)⟩
  have pE:=Q1 dk;have aM:=Q1 pH;clear bC Am dk pH;go_upto_region 6 with fail;refine zt (fun W:World=>Below w.heap.size w W) Wj ?_;have hS:Below w.heap.size w wr.drew:=za hB 1;generalize wr.drew=wd at*;refine rg_t 0 hS ?_;simp only[k9,q9,Act.put,vv,vz,v0];refine rg_t 1 hS ?_;simp only[g_S];refine rg_t 2 hS ?_;simp only[g_S];refine rg_t 4 hS ?_;simp only[g_S];refine rg_t 5 hS ?_;simp only[g_S];refine rg_t 6 hS ?_;simp only[g_S];refine ze 3 (v:=?_) rfl Wj Wj Wj hS rfl ?_ ?_;rotate_left
  ·intro wS He;obtain⟨y0,y1,y2⟩:=pE.out wS He;go_simp;(with_reducible rfl)
  simp only[g_S];refine ze 7 (v:=?_) rfl Wj Wj Wj hS rfl ?_ ?_;rotate_left
  ·intro wS He;obtain⟨y0,y1,y2⟩:=aM.out wS He;go_simp;(with_reducible rfl)
  simp only[g_S];have cp:=Ko x.a y.a x.A x.c y.A y.c w.heap.size wd (Rd.below hx hS) (Rd.below nH hS) hS.size (by have h1:=hx.cap;have h2:=hx.max;simp[maxLen]at h2;omega) (by have h1:=nH.cap;have h2:=nH.max;simp[maxLen]at h2;omega);rw[he]at cp;rw[show decide (y.a=y.a)=true by simp]at cp;unfold asV at cp;refine zj 8 rfl Wj rfl (fun K hK=>?_);go_simp
  (with_reducible refine cp.mono ?_)
  rintro e w2 ⟨rfl,Hc⟩;have BK:=hS.trans (Hc.mono hS.size);refine hK _ _ BK ?_;clear hK K cp;try simp only[g_S]
  refine rg_t 9 BK ?_;simp only[g_S];refine zz Wj ?_;go_wp2_with(with_reducible refine h_A ?_);exact⟨⟨k+1,by omega,by go_num,BK⟩,by simp[RowKit.intOf];omega⟩
 obtain rfl:k=n':=by omega
 go_wp2_with(with_reducible refine h_A ?_);go_ret;exact⟨rfl,hB⟩
end Go.PH
section
namespace Go.PH
theorem ZR:∀(l l':List Sp) (R S:List UInt8),l.length=l'.length→spOK 4294967296 l→spOK 4294967296 l'→yf l++R=yf l'++S→l=l'∧R=S
 | [],[],R,S,_,_,_,h=>⟨rfl,h⟩
 | [],_::_,_,_,hl,_,_,_=>by simp at hl
 | _::_,[],_,_,hl,_,_,_=>by simp at hl
 | a::l,b::l',R,S,hl,h1,h2,h=>by
  have e1:yf (a::l)=be 4 a.1++be 4 a.2++yf l:=rfl;have e2:yf (b::l')=be 4 b.1++be 4 b.2++yf l':=rfl;rw[e1,e2]at h;simp only[K1]at h;have ha:=h1 a (q7 ..);have hb:=h2 b (q7 ..);obtain⟨p1,h⟩:=kw (i:=4) ha.1 hb.1 h;obtain⟨p2,h⟩:=kw (i:=4) ha.2 hb.2 h;obtain⟨p3,p4⟩:=ZR l l' R S zAh (fun x hx=>h1 x (q6 _ hx)) (fun x hx=>h2 x (q6 _ hx)) h;exact⟨by rw[p3,show a=b from Prod.ext p1 p2],p4⟩
theorem VM{l l':List Sp}{R S:List UInt8}(e:ye l=0)(e':ye l'=0)(h1:spOK 4294967296 l)(h2:spOK 4294967296 l')(h:yL l++R=yL l'++S):l=l'∧R=S:=by
 have g:∀{m:List Sp},ye m=0→yL m=be 2 (8*m.length)++yf m∧m.length≤1000:=by
  intro m hm;unfold ye at hm;split at hm
  ·rename_i hr
   split at hm
   ·rename_i hl
    exact⟨by unfold yL;rw[if_pos ⟨hr,hl⟩],hl⟩
   omega
  omega
 obtain⟨g1,g2⟩:=g e;obtain⟨g3,g4⟩:=g e';rw[g1,g3,K1,K1]at h;obtain⟨p1,h⟩:=kw (i:=2) Wq Wq h;exact ZR l l' R S Wq h1 h2 h
theorem VN{x y:Xd}{R S:List UInt8}(hx:x.fmt<4294967296)(hy:y.fmt<4294967296)(kx:x.err=0)(ky:y.err=0)(h:x.put++R=y.put++S):x=y∧R=S:=by
 have g:∀{z:Xd},z.err=0→z.ok=true:=by
  intro z hz;unfold Xd.err at hz;split at hz
  ·rename_i h;exact h
  omega
 have ox:=g kx;have oy:=g ky;rw[Xd.put_ok ox,Xd.put_ok oy]at h;have h1:=vE hx ox R;have h2:=vE hy oy S;rw[h,h2]at h1;simp only[Prod.mk.injEq]at h1;exact⟨h1.1.symm,h1.2.1.symm⟩
structure AB(a:Ag):Prop where
 n:a.n<18446744073709551616
 x:a.x.fmt<4294967296
 q:spOK 4294967296 a.q
 v:VB a.v
theorem RA.ab{w:World}{F:Nat→Prop}{a:Ag}{h:AH}(ha:RA w F a h):AB a:=⟨ha.n,ha.x.1,ha.ok,ha.v.vb⟩
theorem vK{s:List UInt8}{i:Nat}(hi:i=1∨i=2)(h:zE s.length (i:Int)=0):s.length<256 ^ i∧zP [] s (i:Int)=be i s.length++s:=by
 refine⟨?_,by rw[yQ h];simp⟩;unfold zE at h;rcases hi with rfl|rfl<;>simp at h<;>exact h
theorem zcI{kd:UInt8}(hk:kd∈jX){a b:Ag}{R S:List UInt8}(ba:AB a)(bb:AB b)(ha:okA kd a=true)(hb:okA kd b=true)(BR:a.is=b.is)(h:byA kd a++R=byA kd b++S):a=b∧R=S:=by
 unfold jX at hk;simp only[v9,j0,or_false]at hk;rcases hk with rfl|rfl|rfl|rfl|rfl|rfl|rfl|rfl|rfl
 ·have ea:=(zL _ _).1 (show zy a (ag0 a.is)=true from ha);have eb:=(zL _ _).1 (show zy b (ag0 b.is)=true from hb);exact⟨by rw[ea,eb,BR],h⟩
 ·obtain⟨na,ea⟩:=Bool.and_eq_true _ _▸(show(decide (a.n<256)&&zy a (agN a))=true from ha);obtain⟨nb,eb⟩:=Bool.and_eq_true _ _▸(show(decide (b.n<256)&&zy b (agN b))=true from hb);obtain⟨e,h2⟩:=kw (i:=1) (by simpa using na) (by simpa using nb) (show be 1 a.n++R=be 1 b.n++S from h);exact Z6a_
 ·obtain⟨na,ea⟩:=Bool.and_eq_true _ _▸(show(decide (a.n<65536)&&zy a (agN a))=true from ha);obtain⟨nb,eb⟩:=Bool.and_eq_true _ _▸(show(decide (b.n<65536)&&zy b (agN b))=true from hb);obtain⟨e,h2⟩:=kw (i:=2) (by simpa using na) (by simpa using nb) (show be 2 a.n++R=be 2 b.n++S from h);exact Z6a_
 ·obtain⟨na,ea⟩:=Bool.and_eq_true _ _▸(show(decide (a.n<4294967296)&&zy a (agN a))=true from ha);obtain⟨nb,eb⟩:=Bool.and_eq_true _ _▸(show(decide (b.n<4294967296)&&zy b (agN b))=true from hb);obtain⟨e,h2⟩:=kw (i:=4) (by simpa using na) (by simpa using nb) (show be 4 a.n++R=be 4 b.n++S from h);exact Z6a_
 ·obtain⟨na,ea⟩:=Bool.and_eq_true _ _▸(show(decide (zE a.s.length 1=0)&&zy a (agS a))=true from ha);obtain⟨nb,eb⟩:=Bool.and_eq_true _ _▸(show(decide (zE b.s.length 1=0)&&zy b (agS b))=true from hb);obtain⟨l1,t1⟩:=vK (i:=1) (Or.inl rfl) (of_decide_eq_true na);obtain⟨l2,t2⟩:=vK (i:=1) (Or.inl rfl) (of_decide_eq_true nb);have h':zP [] a.s ((1:Nat):Int)++R=zP [] b.s ((1:Nat):Int)++S:=h;exact Z57_
 ·obtain⟨na,ea⟩:=Bool.and_eq_true _ _▸(show(decide (zE a.s.length 2=0)&&zy a (agS a))=true from ha);obtain⟨nb,eb⟩:=Bool.and_eq_true _ _▸(show(decide (zE b.s.length 2=0)&&zy b (agS b))=true from hb);obtain⟨l1,t1⟩:=vK (i:=2) (Or.inr rfl) (of_decide_eq_true na);obtain⟨l2,t2⟩:=vK (i:=2) (Or.inr rfl) (of_decide_eq_true nb);have h':zP [] a.s ((2:Nat):Int)++R=zP [] b.s ((2:Nat):Int)++S:=h;exact Z57_
 ·obtain⟨na,ea⟩:=Bool.and_eq_true _ _▸(show(decide (((a.x.err:Nat):Int)=0)&&zy a (agX a))=true from ha);obtain⟨nb,eb⟩:=Bool.and_eq_true _ _▸(show(decide (((b.x.err:Nat):Int)=0)&&zy b (agX b))=true from hb);obtain⟨e,h2⟩:=VN ba.x bb.x (by have:=of_decide_eq_true na;omega) (by have:=of_decide_eq_true nb;omega) (show a.x.put++R=b.x.put++S from h);exact⟨by rw[(zL _ _).1 ea,(zL _ _).1 eb];unfold agX;simp[e],h2⟩
 ·obtain⟨na,ea⟩:=Bool.and_eq_true _ _▸(show(decide (((ye a.q:Nat):Int)=0)&&zy a (agQ a))=true from ha);obtain⟨nb,eb⟩:=Bool.and_eq_true _ _▸(show(decide (((ye b.q:Nat):Int)=0)&&zy b (agQ b))=true from hb);obtain⟨e,h2⟩:=VM (by have:=of_decide_eq_true na;omega) (by have:=of_decide_eq_true nb;omega) ba.q bb.q (show yL a.q++R=yL b.q++S from h);exact⟨by rw[(zL _ _).1 ea,(zL _ _).1 eb];unfold agQ;simp[e],h2⟩
 obtain⟨na,ea⟩:=Bool.and_eq_true _ _▸(show(decide (errV a.v=0)&&zy a (agX2 a))=true from ha);obtain⟨nb,eb⟩:=Bool.and_eq_true _ _▸(show(decide (errV b.v=0)&&zy b (agX2 b))=true from hb);have na':=of_decide_eq_true na;have nb':=of_decide_eq_true nb;have h':vlP a.v++R=vlP b.v++S:=h;unfold vlP at h';rw[if_pos na',if_pos nb']at h';obtain⟨c1,m1⟩:=j3 na';obtain⟨c2,m2⟩:=j3 nb';obtain⟨e,h2⟩:=zcE a.v m1 ba.v ⟨200,Int.le_refl _,c1⟩ b.v R S m2 bb.v ⟨200,Int.le_refl _,c2⟩ h';exact⟨by rw[(zL _ _).1 ea,(zL _ _).1 eb];unfold agX2;simp[e],h2⟩
theorem XJ:∀(l l':List Ag),l.length=l'.length→zF (l.map toSA)=zF (l'.map toSA)→∀i (h:i<l.length) (h':i<l'.length),l[i].is=l'[i].is
 | [],[],_,_,i,h,_=>by simp at h
 | [],_::_,hl,_,_,_,_=>by simp at hl
 | _::_,[],hl,_,_,_,_=>by simp at hl
 | a::l,b::l',hl,h,i,hi,hi'=>by
  simp only[List.map_cons,zF]at h;have e1:(toSA a).is=a.is:=rfl;have e2:(toSA b).is=b.is:=rfl;rw[e1,e2]at h
  have hh:a.is=b.is∧zF (l.map toSA)=zF (l'.map toSA):=by
   cases ha:a.is<;>cases hb:b.is<;>rw[ha,hb]at h<;>simp at h<;>first|exact⟨rfl,by omega⟩|(exfalso;omega)
  cases i with
  | zero=>exact hh.1
  | succ i=>exact XJ l l' zAh hh.2 i (by simpa using hi) (by simpa using hi')
theorem zbr(kd:List UInt8)(hk:∀x∈kd,x∈jX):∀(n i:Nat) (l l':List Ag) (R S:List UInt8),l.length=kd.length→l'.length=kd.length→n+i=kd.length→(∀a∈l,AB a)→(∀a∈l',AB a)→
  (∀j (h:j<l.length) (h':j<l'.length),l[j].is=l'[j].is)→(∀j (h:j<kd.length) (h1:j<l.length) (h2:j<l'.length),okA kd[j] l[j]=true∧okA kd[j] l'[j]=true)→
  ((j1 i n).flatMap (fun j=>match kd[j]?,l[j]? with|some k,some a=>byA k a|_,_=>[]))++R=((j1 i n).flatMap (fun j=>match kd[j]?,l'[j]? with|some k,some a=>byA k a|_,_=>[]))++S→l.drop i=l'.drop i∧R=S:=by
 intro n
 induction n with
 | zero=>
  intro i l l' R S h1 h2 h3 _ _ _ _ h
  refine⟨by rw[j2 Wq,j2 Wq],by simpa using h⟩
 | succ n ih=>
  intro i l l' R S h1 h2 h3 b1 b2 BR bJ h;rw[List.range'_succ,kv,kv,K1,K1]at h;have g0:i<kd.length:=by omega
  have g1:i<l.length:=by omega
  have g2:i<l'.length:=by omega
  rw[Q2 g0,Q2 g1,Q2 g2]at h;simp only at h;obtain⟨e,h⟩:=zcI (hk _ (Vy g0)) (b1 _ (Vy g1)) (b2 _ (Vy g2)) (bJ i g0 g1 g2).1 (bJ i g0 g1 g2).2 (BR i g1 g2) h;obtain⟨e2,h4⟩:=ih (i+1) l l' R S h1 h2 Wq b1 b2 BR bJ h;exact⟨by rw[k5 g1,k5 g2,e,e2],h4⟩
theorem zbs{a b:Mt}(ha:yI a=true)(hb:yI b=true)(ba:a.cls<256∧a.code<256∧∀x∈a.args,AB x)(bb:b.cls<256∧b.code<256∧∀x∈b.args,AB x)(h:putM a=putM b):a=b:=by
 unfold putM at h;rw[if_pos ha,if_pos hb]at h;unfold yI kJ at ha hb;simp only[Bool.and_eq_true,decide_eq_true_eq,j8,zB]at ha hb;obtain⟨⟨⟨_,la⟩,sa⟩,oa⟩:=ha;obtain⟨⟨⟨_,lb⟩,sb⟩,ob⟩:=hb;obtain⟨a1,a2,a3⟩:=ba;obtain⟨b1,b2,b3⟩:=bb;unfold kG at h;simp only[K1,zA,z0,List.cons.injEq]at h;obtain⟨c1,c2,h⟩:=h
 have d1:a.cls=b.cls:=by
  have:=congrArg z1 c1;simp only[q5]at this;omega
 have d2:a.code=b.code:=by
  have:=congrArg z1 c2;simp only[q5]at this;omega
 have ee:xz a=xz b:=by unfold xz;rw[d1,d2]
 have fo:=(qo b.cls b.code).2;have rZ:=(qo b.cls b.code).1
 have hf:a.sync=b.sync∧be 2 (zF (a.args.map toSA))++(K0 a.args.length).flatMap (byI a)=be 2 (zF (b.args.map toSA))++(K0 b.args.length).flatMap (byI b):=by
  rw[d1]at h sa;by_cases hc:b.cls≤2
  ·rw[if_pos hc,if_pos hc]at h;rw[decide_eq_true hc]at sa sb;simp at sa sb;exact⟨by rw[sa,sb],by simpa using h⟩
  rw[if_neg hc,if_neg hc]at h;simp only[zA,z0,List.cons.injEq,true_and]at h;refine⟨?_,h.2⟩;have:=h.1
  cases W8:a.sync<;>cases Rt:b.sync<;>rw[W8,Rt]at this<;>first|rfl|(exact absurd this WJ)
 obtain⟨d3,h⟩:=hf;have ll:a.args.length=b.args.length:=by rw[la,lb,ee]
 have f1:=xq (a.args.map toSA);have f2:=xq (b.args.map toSA);rw[kI]at f1 f2;have o9:b.args.length≤3:=by rw[lb];exact fo
 have p1:(2:Nat) ^ a.args.length≤2 ^ 3:=k6 Wq Wq;have p2:(2:Nat) ^ b.args.length≤2 ^ 3:=k6 Wq o9;obtain⟨e1,h⟩:=kw (i:=2) Wq Wq h;have BR:=XJ a.args b.args ll e1;rw[ll]at h;have nF:∀m:Mt,byI m=fun j=>match(xz m)[j]?,m.args[j]? with|some k,some a=>byA k a|_,_=>[]:=fun m=>by funext j;rfl
 rw[nF,nF,ee,List.range_eq_range']at h
 have:=zbr (xz b) rZ b.args.length 0 a.args b.args [] [] (by rw[la,ee]) lb (by rw[lb];omega) a3 b3 BR (fun j h0 h1 h2=>by
  have q1:=oa j h1;have q2:=ob j h2;unfold okI at q1 q2;rw[ee]at q1;rw[Q2 h0,Q2 h1]at q1;rw[Q2 h0,Q2 h2]at q2
  exact⟨q1,q2⟩) (by rw[z2,z2];exact h)
 have e5:a.args=b.args:=by simpa using this.1
 cases a;cases b;simp only at d1 d2 d3 e5;rw[d1,d2,d3,e5]
end Go.PH
end
section
namespace Go.PH
def mt0:Mt:=⟨0,0,false,[]⟩
def MB(m:Mt):Prop:=m.cls<256∧m.code<256∧∀x∈m.args,AB x
def GetM(b:List UInt8)(m:Mt)(er:Int):Prop:=
 (b.length<2∧er=4∧m=mt0)∨
 (2≤b.length∧ym (b.getD 0 0).toNat (b.getD 1 0).toNat=none∧er=80∧m=mt0)∨
 (2≤b.length∧(ym (b.getD 0 0).toNat (b.getD 1 0).toNat).isSome=true∧((er=0∧MB m∧yI m=true∧putM m=b)∨(er=5∧m=mt0∧∀m',yI m'=true→MB m'→putM m'≠b)))
theorem GetM.uniq{b:List UInt8}{m n:Mt}{e f:Int}(h:GetM b m e)(k:GetM b n f):m=n∧e=f:=by
 rcases h with⟨h1,h2,h3⟩|⟨h1,h2,h3,h4⟩|⟨h1,h2,h3⟩
 ·rcases k with⟨k1,k2,k3⟩|⟨k1,_⟩|⟨k1,_⟩
  ·exact⟨by rw[h3,k3],by rw[h2,k2]⟩
  ·omega
  omega
 ·rcases k with⟨k1,k2,k3⟩|⟨k1,k2,k3,k4⟩|⟨k1,k2,_⟩
  ·omega
  ·exact⟨by rw[h4,k4],by rw[h3,k3]⟩
  rw[h2]at k2;cases k2
 rcases k with⟨k1,k2,k3⟩|⟨k1,k2,k3,k4⟩|⟨k1,k2,k3⟩
 ·omega
 ·rw[k2]at h2;cases h2
 rcases h3 with⟨e1,hb,hg,hp⟩|⟨e1,e2,BO⟩
 ·rcases k3 with⟨f1,kb,kg,kp⟩|⟨f1,f2,kno⟩
  ·exact⟨zbs hg kg hb kb (by rw[hp,kp]),by rw[e1,f1]⟩
  exact absurd hp (kno m hg hb)
 rcases k3 with⟨f1,kb,kg,kp⟩|⟨f1,f2,kno⟩
 ·exact absurd kp (BO n kg kb)
 exact⟨by rw[e2,f2],by rw[e1,f1]⟩
theorem ZS{m:Mt}{b:List UInt8}(hg:yI m=true)(hb:MB m)(hp:putM m=b):
  2≤b.length∧(b.getD 0 0).toNat=m.cls∧(b.getD 1 0).toNat=m.code∧(ym m.cls m.code).isSome=true∧m.args.length=(yv (ym m.cls m.code)).length∧
  (m.cls≤2→m.sync=false∧b.drop 2=be 2 (zF (m.args.map toSA))++(K0 m.args.length).flatMap (byI m))∧
  (¬m.cls≤2→4≤b.length∧b.getD 3 0=(if m.sync then 1 else 0)∧b.drop 4=be 2 (zF (m.args.map toSA))++(K0 m.args.length).flatMap (byI m)):=by
 have hf:kJ m=true:=by
  unfold yI at hg;rw[Bool.and_eq_true]at hg;exact hg.1
 unfold kJ xz at hf;simp only[Bool.and_eq_true,decide_eq_true_eq]at hf;obtain⟨⟨h1,h2⟩,h3⟩:=hf;unfold putM at hp;rw[if_pos hg]at hp;unfold kG at hp;have hc:(Vx m.cls).toNat=m.cls:=by rw[q5];exact z3 hb.1
 have hd:(Vx m.code).toNat=m.code:=by rw[q5];exact z3 hb.2.1
 generalize(K0 m.args.length).flatMap (byI m)=Y at*;generalize be 2 (zF (m.args.map toSA))=X at*;subst hp;refine⟨by simp,by simpa using hc,by simpa using hd,h1,h2,fun h=>?_,fun h=>?_⟩
 ·refine⟨?_,by rw[if_pos h];simp⟩
  cases hs:m.sync
  ·rfl
  rw[hs]at h3;simp[h]at h3
 rw[if_neg h];exact⟨by simp,by simp,by simp⟩
theorem Ys:∀(l:List SA) (i:Nat) (hi:i<l.length),zF l / 2 ^ i % 2=if l[i].is then 1 else 0
 | [],i,hi=>by simp at hi
 | a::l,0,hi=>by
  rw[zF,Nat.pow_zero,Nat.div_one];simp only[q9]
  split<;>omega
 | a::l,i+1,hi=>by
  rw[zF,Nat.pow_succ,Nat.mul_comm (2 ^ i) 2,←Nat.div_div_eq_div_mul];have e:((if a.is=true then 1 else 0)+2*zF l) / 2=zF l:=by split<;>omega
  rw[e];simp only[List.getElem_cons_succ];exact Ys l i (by simpa using hi)
theorem VP{n i:Nat}(f:Nat→List UInt8)(hi:i<n):((K0 n).drop i).flatMap f=f i++((K0 n).drop (i+1)).flatMap f:=by
 rw[k5 (by simpa using hi),kv,List.getElem_range]
theorem zdf{m:Mt}(hg:yI m=true){i:Nat}(hi:i<m.args.length)(h':i<(yv (ym m.cls m.code)).length):okA (yv (ym m.cls m.code))[i] m.args[i]=true∧byI m i=byA (yv (ym m.cls m.code))[i] m.args[i]:=by
 unfold yI at hg;rw[Bool.and_eq_true]at hg;have h1:=j8.1 hg.2 i (zB.2 hi);unfold okI xz at h1;rw[Q2 h',Q2 hi]at h1;refine⟨h1,?_⟩;unfold byI xz;rw[Q2 h',Q2 hi]
end Go.PH
end
section
namespace Go.PH
def atM(x:Nat):Nat:=if x≤2 then 2 else 4
def kq(x:Nat)(b:List UInt8):Bool:= !decide (x≤2)&&(b[3]?==some 1)
structure Told(b:List UInt8)(m:Mt):Prop where
 good:yI m=true
 mb:MB m
 put:putM m=b
theorem JZ(l:List SA)(h:l.length≤3):zF l<65536:=by
 have h1:=xq l;have h2:2 ^ l.length≤2 ^ 3:=k6 Wq h;omega
theorem vk{b:List UInt8}{m:Mt}(h:Told b m):m.args.length=(yv (ym m.cls m.code)).length∧m.args.length≤3:=by
 obtain⟨_,_,_,_,h5,_,_⟩:=ZS h.good h.mb h.put;exact⟨h5,by rw[h5];exact(qo _ _).2⟩
theorem qZ{x y:UInt8}{r b:List UInt8}(hb:b=x::y::r){m:Mt}(h:Told b m):m.cls=x.toNat∧m.code=y.toNat∧m.sync=kq x.toNat b∧atM x.toNat+2≤b.length∧
  mnum (b.drop (atM x.toNat)) false 2=(zF (m.args.map toSA),(K0 m.args.length).flatMap (byI m),false):=by
 obtain⟨h1,h2,h3,h4,h5,h6,h7⟩:=ZS h.good h.mb h.put;have e1:m.cls=x.toNat:=by rw[←h2,hb];rfl
 have e2:m.code=y.toNat:=by rw[←h3,hb];rfl
 have dl:zF (m.args.map toSA)<65536:=JZ _ (by rw[kI];exact(vk h).2);have iz:∀Y,mnum (be 2 (zF (m.args.map toSA))++Y) false 2=(zF (m.args.map toSA),Y,false):=fun Y=>qX 2 (.inr (.inl rfl)) _ Wq Y
 by_cases hc:m.cls≤2
 ·obtain⟨a1,a2⟩:=h6 hc;have eY:atM x.toNat=2:=by unfold atM;rw[if_pos Wq]
  have hl:=congrArg q4 a2;simp only[q8,KS,zr]at hl;refine⟨e1,e2,?_,by rw[eY];omega,?_⟩
  ·rw[a1];unfold kq;rw[decide_eq_true Wq];rfl
  rw[eY,a2,iz]
 obtain⟨a0,a1,a2⟩:=h7 hc;have eY:atM x.toNat=4:=by unfold atM;rw[if_neg Wq]
 have hl:=congrArg q4 a2;simp only[q8,KS,zr]at hl;refine⟨e1,e2,?_,by rw[eY];omega,?_⟩
 ·unfold kq;rw[decide_eq_false Wq]
  have h3:b[3]?=some (b.getD 3 0):=by
   rw[List.getD_eq_getElem?_getD,Q2 Wq];rfl
  rw[h3,a1]
  cases m.sync<;>rfl
 rw[eY,a2,iz]
def ReadTo(b:List UInt8)(i:Nat)(gs:List Ag)(l:List UInt8)(bad:Bool):Prop:=∀m,Told b m→gs=m.args.take i∧l=((K0 m.args.length).drop i).flatMap (byI m)∧bad=false
theorem ReadTo.start{x y:UInt8}{r b:List UInt8}(hb:b=x::y::r){l:List UInt8}{fl:Nat}{bad:Bool}(h:mnum (b.drop (atM x.toNat)) false 2=(fl,l,bad)):ReadTo b 0 [] l false:=fun m hm=>by
 obtain⟨_,_,_,_,h5⟩:=qZ hb hm;rw[h]at h5;injection h5 with h5 h6
 injection h6 with h6 h7
 exact⟨by simp,by rw[h6];simp,rfl⟩
theorem ReadTo.step{x y:UInt8}{r b:List UInt8}(hb:b=x::y::r){kd:List UInt8}(hk:kd=yv (ym x.toNat y.toNat)){i:Nat}{gs:List Ag}{l l':List UInt8}{bad bad':Bool}{a:Ag}{is:Bool}(h:ReadTo b i gs l bad)(hi:i<kd.length)
  (BR:∀m,Told b m→∀(h:i<m.args.length),m.args[i].is=is)
  (ha:∀(a':Ag) (rest:List UInt8),bad=false→l=byA kd[i] a'++rest→okA kd[i] a'=true→AB a'→a'.is=is→a=a'∧l'=rest∧bad'=false):ReadTo b (i+1) (gs++ [a]) l' bad':=fun m hm=>by
 obtain⟨h1,h2,h3⟩:=h m hm;obtain⟨e1,e2,_⟩:=qZ hb hm;have hl:=(vk hm).1;have bI:yv (ym m.cls m.code)=kd:=by rw[hk,e1,e2]
 have BB:i<m.args.length:=by rw[hl,bI];exact hi
 have mo:i<(yv (ym m.cls m.code)).length:=by rw[bI];exact hi
 obtain⟨g1,g2⟩:=zdf hm.good BB mo;simp only[bI]at g1 g2;rw[VP _ (by simpa using BB),g2]at h2;obtain⟨q1,q2,q3⟩:=ha m.args[i] _ h3 h2 g1 (hm.mb.2.2 _ (Vy BB)) (BR m hm BB);exact⟨by rw[List.take_succ_eq_append_getElem BB,h1,q1],q2,q3⟩
theorem ReadTo.all{x y:UInt8}{r b:List UInt8}(hb:b=x::y::r){kd:List UInt8}(hk:kd=yv (ym x.toNat y.toNat)){gs:List Ag}{l:List UInt8}{bad:Bool}(h:ReadTo b kd.length gs l bad){m:Mt}(hm:Told b m):m=⟨x.toNat,y.toNat,kq x.toNat b,gs⟩∧bad=false:=by
 obtain⟨h1,h2,h3⟩:=h m hm;obtain⟨e1,e2,e3,_⟩:=qZ hb hm;have hl:=(vk hm).1;rw[e1,e2,←hk]at hl;rw[←hl,q0 (KL _)]at h1;refine⟨?_,h3⟩;obtain⟨c,d,s,g⟩:=m;simp only at e1 e2 e3 h1;rw[e1,e2,e3,h1]
theorem VO{x y:UInt8}{r b:List UInt8}(hb:b=x::y::r){l:List UInt8}{fl:Nat}{bad:Bool}(h:mnum (b.drop (atM x.toNat)) false 2=(fl,l,bad)){i:Nat}{m:Mt}(hm:Told b m)(hi:i<m.args.length):m.args[i].is=decide (fl / 2 ^ i % 2=1):=by
 obtain⟨_,_,_,_,h5⟩:=qZ hb hm;rw[h]at h5;injection h5 with h5 _
 have h6:=Ys (m.args.map toSA) i (by simpa using hi);rw[←h5]at h6;rw[h6];have e:((m.args.map toSA)[i]'(by simpa using hi)).is=m.args[i].is:=by rw[List.getElem_map];rfl
 rw[e]
 cases m.args[i].is<;>simp
end Go.PH
end
namespace Go.PH
open Go.RowKit Go.Proofs Go.Proofs.Tryz
variable {B base c lb n : Nat} {F : Nat → Prop} {A : Option Addr} {w wr wr' : World}
theorem RM.len{m:Mt}(h:RM w F m A c):m.args.length≤140737488351232:=by
 exact h.c
theorem yU(a b:Xd)(w:World):(binOp .neq 73 (.agg (xdV a)) (.agg (xdV b))).run prog w= .ok (.bool (!decide (a=b))) w:=by
 rw[run_neq_struct,Xi];rfl
theorem J0(v:Vl):yJ v v=true:=(jY v v).2 rfl
def ArgR(w:World)(ok:Bool)(l:List UInt8)(e:Ending)(w':World):Prop:=∃A2 n2 c2,e= .returned (.tuple #[.slice A2 n2 c2,.bool ok])∧Below w.heap.size w w'∧(ok=true→n2=l.length∧OwnB w' w.heap.size A2 n2 c2 l)
def zdi(k:Nat):Option Nat:=if k=110∨k=115 then some 1 else if k=119∨k=116 then some 2 else if k=100 then some 4 else none
theorem qd(k b:Nat)(hk:zdi k=some b)(w:World):Calls prog 94 #[.int .u8 (k:Int)] w fun e w'=>e= .returned (.int .i64 (b:Int))∧w'=w:=by
 have lT:(k=110∧b=1)∨(k=115∧b=1)∨(k=119∧b=2)∨(k=116∧b=2)∨(k=100∧b=4):=by
  unfold zdi at hk;split at hk
  ·injection hk;omega
  split at hk
  ·injection hk;omega
  split at hk
  ·injection hk;omega
  cases hk
 clear hk;rcases lT with⟨rfl,rfl⟩|⟨rfl,rfl⟩|⟨rfl,rfl⟩|⟨rfl,rfl⟩|⟨rfl,rfl⟩<;>(go_enter func94,ntmps94;go_wp2_with(with_reducible refine h_A ?_);go_ret;exact⟨rfl,rfl⟩)
theorem zdg(a:Ag)(h:AH)(w:World)(ha:RAw w a h):Calls prog 60 #[.int .u8 98,.agg (agV a h)] w (ArgR w (okA 98 a) (byA 98 a)):=by
 have qq3c:=();exact Zk_
theorem zdh(a:Ag)(h:AH)(w:World)(ha:RAw w a h):Calls prog 60 #[.int .u8 110,.agg (agV a h)] w (ArgR w (okA 110 a) (byA 110 a)):=by
 have qq1t:=();exact Z6_
theorem zbT(a:Ag)(h:AH)(w:World)(ha:RAw w a h):Calls prog 60 #[.int .u8 119,.agg (agV a h)] w (ArgR w (okA 119 a) (byA 119 a)):=by
 have qq1u:=();exact Z6_
theorem zdj(a:Ag)(h:AH)(w:World)(ha:RAw w a h):Calls prog 60 #[.int .u8 100,.agg (agV a h)] w (ArgR w (okA 100 a) (byA 100 a)):=by
 exact Z6_
theorem zbU(a:Ag)(h:AH)(w:World)(ha:RAw w a h):Calls prog 60 #[.int .u8 115,.agg (agV a h)] w (ArgR w (okA 115 a) (byA 115 a)):=by
 have qq1v:=();exact Z6_
theorem zbV(a:Ag)(h:AH)(w:World)(ha:RAw w a h):Calls prog 60 #[.int .u8 116,.agg (agV a h)] w (ArgR w (okA 116 a) (byA 116 a)):=by
 have qq1w:=();exact Z6_
theorem zdk(a:Ag)(h:AH)(w:World)(ha:RAw w a h):Calls prog 60 #[.int .u8 120,.agg (agV a h)] w (ArgR w (okA 120 a) (byA 120 a)):=by
 have qq3d:=();exact Zk_
theorem zdl(a:Ag)(h:AH)(w:World)(ha:RAw w a h):Calls prog 60 #[.int .u8 114,.agg (agV a h)] w (ArgR w (okA 114 a) (byA 114 a)):=by
 exact Zk_
theorem zdm(a:Ag)(h:AH)(w:World)(ha:RAw w a h):Calls prog 60 #[.int .u8 118,.agg (agV a h)] w (ArgR w (okA 118 a) (byA 118 a)):=by
 have qq3b:=();exact Zk_
theorem zbt(kd:UInt8)(hk:kd∈jX)(a:Ag)(h:AH)(w:World)(ha:RAw w a h):Calls prog 60 #[.int .u8 (kd.toNat:Int),.agg (agV a h)] w (ArgR w (okA kd a) (byA kd a)):=by
 unfold jX at hk;simp only[v9,j0,or_false]at hk;rcases hk with rfl|rfl|rfl|rfl|rfl|rfl|rfl|rfl|rfl
 ·exact zdg a h w ha
 ·exact zdh a h w ha
 ·exact zbT a h w ha
 ·exact zdj a h w ha
 ·exact zbU a h w ha
 ·exact zbV a h w ha
 ·exact zdk a h w ha
 ·exact zdl a h w ha
 exact zdm a h w ha
theorem VQ(c k:Nat):∃rw:RRow,(kH c k).getD rr0=rw∧rw.kinds=yv (ym c k)∧(kH c k).isSome=(ym c k).isSome:=by
 refine⟨_,rfl,?_,?_⟩
 ·rw[YK]
  cases ym c k<;>rfl
 rw[YK]
 cases ym c k<;>rfl
def hd0(cls code:Nat)(sync:Bool):List UInt8:=[Vx cls,Vx code]++(if cls≤2 then []else [1,if sync then 1 else 0])
theorem YU(cls code:Nat)(sync:Bool)(fl:Nat)(h:fl<256):kG cls code sync fl=hd0 cls code sync++ [0,Vx fl]:=by
 unfold kG hd0;congr 1;show be 2 fl=_
 have e:fl / 256=0:=by omega
 simp[be,e]
theorem XK(m:Mt)(A:Option Addr)(c:Nat)(w:World)(hm:RMw w m A c)
  (DN:∀kd,kd∈yv (ym m.cls m.code)→∀(a:Ag) (h:AH) (W:World),RAw W a h→Calls prog 60 #[.int .u8 (kd.toNat:Int),.agg (agV a h)] W (ArgR W (okA kd a) (byA kd a))):Calls prog 43 #[.agg (mtV m A c)] w (MPut w m):=by
 unfold mtV MPut;obtain⟨xb,w1,Hg,Hi,hX,Ha⟩:=zg w #[.int .u8 (m.cls:Int),.int .u8 (m.code:Int),.bool m.sync,.slice A m.args.length c] 106;obtain⟨rZ,fo⟩:=qo m.cls m.code;have fm:=XN m.cls m.code w1;unfold VU at fm;obtain⟨⟨rw_c,rw_k,rw_n,kd⟩,nD,ee,BR⟩:=VQ m.cls m.code;rw[nD,BR]at fm;unfold rrV at fm;simp only at ee fm;obtain⟨RES,eK⟩:∃r,r=putM m:=⟨_,rfl⟩
 obtain⟨E,hE⟩:∃r,r=errM m:=⟨_,rfl⟩
 rw[←eK,←hE];have dD:=zi kd;have Ov:=hm.c;have bC:=hm.cls;have Fu:=hm.code;have x0:=hX.c0;have x1:=hX.c1;have x2:=hX.c2;have x3:=hX.c3;by_cases hf:kJ m=true
 ·exact Z3l_
 have hg:¬yI m=true:=by unfold yI;simp[hf]
 obtain rfl:RES=[]:=by rw[eK];unfold putM;rw[if_neg hg]
 obtain rfl:E=80:=by rw[hE];unfold errM;rw[if_neg hg]
 unfold kJ xz at hf;rw[←ee]at hf;generalize(ym m.cls m.code).isSome=is at*;clear DN hg eK hE rZ fo ee nD BR hm
 cases is
 ·have qqf1:=();exact Z3l_
 exact Zr_
theorem VR(m:Mt)(A:Option Addr)(c:Nat)(w:World)(hm:RMw w m A c):Calls prog 43 #[.agg (mtV m A c)] w (MPut w m):=
 XK m A c w hm fun kd hk a h W ha=>zbt kd ((qo _ _).1 kd hk) a h W ha
theorem slAg:SlT prog 82 80 12 176 (.agg #[.bool false,.int .u64 0,.string ⟨#[]⟩,.int .u32 0,.string ⟨#[]⟩,.string ⟨#[]⟩,.slice none 0 0,.int .u8 0,.int .u64 0,.string ⟨#[]⟩,.slice none 0 0,.slice none 0 0]):=SlT.mk' underlying82 Wj rfl Wq
structure MpS(wr:World)(base:Nat)(A:Option Addr)(c:Nat)(xs:List (Ag×AH)):Prop where
 own:Own wr base 80 12 A xs.length c (rowC agC xs)
 el:∀p∈xs,RA wr (FB base A wr) p.1 p.2
theorem MpS.on{xs:List (Ag×AH)}(h:MpS wr base A c xs)(hk:∀g,base≤g→g<wr.heap.size→wr'.heap[g]?=wr.heap[g]?)(hs:wr.heap.size≤wr'.heap.size):MpS wr' base A c xs:=by
 exact Z2p_
theorem MpS.below{xs:List (Ag×AH)}(h:MpS wr base A c xs)(hB:Below wr.heap.size wr wr'):MpS wr' base A c xs:=h.on (fun g _ hg=>hB.block g hg) hB.size
theorem MpS.box{b:Nat}{xs:List (Ag×AH)}(h:MpS wr base A c xs)(hg:wr.grownBy wr' (some b))(hb:b<base):MpS wr' base A c xs:=
 h.on (fun g bN Hm=>hg.block g Hm uq) hg.size
theorem MpS.push{w5 w6:World}{A2:Option Addr}{c2:Nat}{xs:List (Ag×AH)}{x:Ag}{hx:AH}(h:MpS w5 base A c xs)(hv:RA w5 (FB base A w5) x hx)
  (ho:Own w6 base 80 12 A2 (xs.length+1) c2 (rowC agC (xs++ [(x,hx)]))) (hg:w5.grownBy w6 (blk A)) (hA:blk A2=blk A∨∀g,blk A2=some g→w5.heap.size≤g):MpS w6 base A2 c2 (xs++ [(x,hx)]):=by
 have hF:∀g,FB base A w5 g→FB base A2 w6 g:=fun g bN=>⟨bN.1,K2 bN.2.1 hg.size,by
  rcases hA with e|e
  ·rw[e];exact bN.2.2
  ·intro e2;have:=e g e2;have:=bN.2.1;omega⟩
 have hk:∀g,FB base A w5 g→w6.heap[g]?=w5.heap[g]?:=fun g bN=>hg.block g bN.2.1 (fun e=>bN.2.2 e.symm)
 refine⟨by rw[KS];exact ho,fun p hp=>?_⟩;rcases List.mem_append.1 hp with hp|hp
 ·exact((h.el p hp).keep hk hg.size).mono hF
 obtain rfl:=List.mem_singleton.1 hp;exact(hv.keep hk hg.size).mono hF
end Go.PH
