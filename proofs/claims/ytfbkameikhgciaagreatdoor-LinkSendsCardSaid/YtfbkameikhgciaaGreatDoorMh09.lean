/- Parts. -/
import Derived.Test.YtfbkameikhgciaaGreatDoorMh08
set_option linter.all false
set_option maxRecDepth 20000
set_option maxHeartbeats 8000000
open Go.RowKit.Below renaming refl → kI
open Go.Lib renaming hid → Q1
open List renaming length_append → KL, getElem?_eq_getElem → KS, range → K0, take_of_length_le → K1, append_assoc → K2, getElem_mem → Vx, mem_cons → q7, not_mem_nil → q8, length_drop → k9, getElem_cons_zero → vv, flatMap_cons → vz, mem_cons_of_mem → v3, mem_cons_self → v4, map_append → v5, getElem_toArray → v9, setIfInBounds_toArray → j1, set_cons_zero → j2, set_cons_succ → j8, length → zB, drop_eq_getElem_cons → z0, length_map → z1, append_nil → z3, map_drop → z4, length_cons → z6, drop_drop → z7, drop_append_of_le_length → z8, take_append_of_le_length → z9, take_take → yB, take_left' → yA, range' → y0, drop_eq_nil_of_le → y1, all_eq_true → y2, mem_range → y3, cons_append → y4, nil_append → y5, drop_left → y8
open Nat renaming le_refl → Q2, lt_of_lt_of_le → Vy, zero_le → q6, mul_one → q9, le_trans → k8, min_eq_left → zA, pow_le_pow_right → z2, mod_eq_of_lt → y7
open UInt8 renaming ofNat → kv, toNat_ofNat' → v0, toNat → y6
open Go.World renaming block_lt_of_cell? → z5
namespace Go.PH
open Go.RowKit Go.Proofs Go.Proofs.Tryz
variable {bad is : Bool} {e : Ending} {l : List UInt8} {B base c cb lb n o rb vb : Nat} {F : Nat → Prop} {A : Option Addr} {W w w' wr wr' : World}
def LS.beginL(L:LS)(b:List UInt8):LS×List UInt8:=
 if b.take 8=hdrB then({L with st:=1,sent:=L.sent++hdrB++ctlB L.sz startB},b.drop 8)
 else if b.length<8∧b=hdrB.take b.length then(L,b)else({L with st:=5,sent:=L.sent++hdrB},b)
def LS.pre(L:LS)(b s:List UInt8):LS×List UInt8:=if L.st=0 then LS.beginL {L with sent:=[],told:=[]} (b++s)else({L with sent:=[],told:=[]},b++s)
def LS.post(ctl:LS→As→LS)(p:LS×List UInt8):LS×List UInt8:=if p.1.st=0∨p.1.st=5 then p else(p.1.frames ctl (zu p.2).1 (zu p.2).2.2,p.2.drop (zu p.2).2.1)
def LS.feed(ctl:LS→As→LS)(L:LS)(b s:List UInt8):LS×List UInt8:=if L.st=5 then({L with sent:=[],told:=[]},b)else LS.post ctl (L.pre b s)
structure LkI(w:World)(B:Nat)(V:Nat→Prop)(lb n:Nat)(b:List UInt8)(L:LS):Prop where
 ex:∃(gp:Nat) (p q r:Value) (RA:Option Addr) (rn rc:Nat) (F:Nat→Prop),
  Box w lb 61 #[.int .u8 (L.st:Int),.slice RA rn rc,.pointer (some ⟨gp,0,none⟩),.int .u64 (L.ch:Int),.int .u64 (L.sz:Int),p,q,r]∧Ga w F gp n L.g∧¬F lb∧(∀k,F k→V k)∧
  RdB w w.heap.size RA rn rc b∧(L.st=0→Own w B 5 1 RA rn rc (b.map u8v))∧(L.st≠0→L.st≠5→rc=rn)∧∀g,blk RA=some g→V g∧g≠lb∧¬F g
 lb:V lb
 v:∀k,V k→B≤k∧k<w.heap.size
def LMid(w:World)(B:Nat)(V:Nat→Prop)(lb n:Nat)(p:LS×List UInt8)(wx:World):Prop:=
 ∃(U T:Nat→Prop) (RA:Option Addr) (rn rc:Nat),LkM wx B U T lb n RA rn rc p.1∧RdB wx wx.heap.size RA rn rc p.2∧(p.1.st=0→Own wx B 5 1 RA rn rc (p.2.map u8v))∧
  (∀g,blk RA=some g→(B≤g∧g<wx.heap.size)∧¬U g∧¬T g∧(V g∨w.heap.size≤g))∧KeepF V w wx∧(∀k,U k→V k∨w.heap.size≤k)∧∀k,T k→V k∨w.heap.size≤k
def zb0(w:World)(B:Nat)(V:Nat→Prop)(lb n:Nat)(p:LS×List UInt8)(e:Ending)(w':World):Prop:=
 ∃(V':Nat→Prop) (TT:Option Addr) (tc:Nat) (th:List TAs),e= .returned (.tuple #[.string (str p.1.sent),.slice TT p.1.told.length tc])∧LkI w' B V' lb n p.2 p.1∧KeepF V w w'∧(∀k,V' k→V k∨w.heap.size≤k)∧
  p.1.told=th.map (·.a)∧OwnT w' B TT p.1.told.length tc th∧(∀g,blk TT=some g→¬V' g∧(V g∨w.heap.size≤g))∧∀x∈th,OwnG w' 0 x.A x.a.segs.length x.c x.a.segs∧∀g,blk x.A=some g→¬V' g∧(V g∨w.heap.size≤g)
theorem LkM.start{gp:Nat}{p:Value}{SA:Option Addr}{sc:Nat}{RA:Option Addr}{rn rc:Nat}{L:LS}(hL:L.told=[])
  (hb:Box w lb 61 #[.int .u8 (L.st:Int),.slice RA rn rc,.pointer (some ⟨gp,0,none⟩),.int .u64 (L.ch:Int),.int .u64 (L.sz:Int),p,.slice SA L.sent.length sc,.slice none 0 0]) (hp:p= .pointer none∨p=bPtr lb 5)
  (hs:Own w B 5 1 SA L.sent.length sc (L.sent.map u8v)) (hg:Ga w F gp n L.g) (np:∀b,blk SA=some b→b≠lb∧¬F b) (d7:¬F lb) (hF:∀k,F k→B≤k) (cT:B≤lb):LkM w B (fun k=>k=lb∨F k∨blk SA=some k) (fun _=>False) lb n RA rn rc L where
 ex:=⟨gp,p,SA,sc,none,0,[],F,by rw[hL];exact hb,hp,hs,by rw[hL];exact Own.none_ _ _ _ _,by rw[hL];rfl,(fun x hx=>by cases hx),hg,fun b hb=>.inr (.inl hb),fun b hb=>⟨.inr (.inr hb),(np b hb).1,(np b hb).2,by simp⟩,(fun b hb=>by cases hb),d7⟩
 lb:=.inl rfl
 size:=k8 cT (Nat.le_of_lt hb.lt)
 uB:=fun b bE=>by
  rcases bE with rfl|h|h
  ·exact⟨cT,hb.lt⟩
  ·exact⟨hF b h,hg.lt b h⟩
  exact hs.blk_lt h
 tB:=fun b h=>h.elim
 ut:=fun b h=>h.elim
theorem LkI.keep{V G:Nat→Prop}{b:List UInt8}{L:LS}(h:LkI w B V lb n b L)(hk:KeepF G w w')(hG:∀k,V k→¬G k):LkI w' B V lb n b L where
 ex:=by
  obtain⟨gp,p,q,r,RA,rn,rc,F,h1,h2,h3,h4,h5,h6,h7,h8⟩:=h.ex;exact⟨gp,p,q,r,RA,rn,rc,F,zV h1 hk (hG _ h.lb),h2.keepF hk (fun k hk'=>hG k (h4 k hk')),h3,h4,(qu h5 hk (Q2 _) (fun g hg=>hG g (h8 g hg).1)).more hk.1,fun e=>zy (h6 e) hk (fun g hg=>hG g (h8 g hg).1),h7,h8⟩
 lb:=h.lb
 v:=fun k hk'=>⟨(h.v k hk').1,Vy (h.v k hk').2 hk.1⟩
theorem LkM.idle{U T:Nat→Prop}{RA:Option Addr}{rn rc:Nat}{L:LS}{b:List UInt8}(h:LkM w B U T lb n RA rn rc L)(hr:RdB w w.heap.size RA rn rc b)(h0:L.st=0→Own w B 5 1 RA rn rc (b.map u8v))(h5:L.st≠0→L.st≠5→rc=rn)
  (hB:∀g,blk RA=some g→(B≤g∧g<w.heap.size)∧¬U g∧¬T g):
  ∃(V':Nat→Prop) (TT:Option Addr) (tc:Nat) (th:List TAs) (p:Value) (SA:Option Addr) (sc:Nat) (cs:Array Value),LkI w B V' lb n b L∧(∀k,V' k→U k∨blk RA=some k)∧L.told=th.map (·.a)∧OwnT w B TT L.told.length tc th∧(∀g,blk TT=some g→U g∧¬V' g)∧(∀x∈th,OwnG w 0 x.A x.a.segs.length x.c x.a.segs∧∀g,blk x.A=some g→T g∧¬V' g)∧
   Box w lb 61 cs∧cs[6]?=some (.slice SA L.sent.length sc)∧cs[7]?=some (.slice TT L.told.length tc)∧Own w B 5 1 SA L.sent.length sc (L.sent.map u8v)∧∀g,blk SA=some g→U g∧¬V' g∧blk TT≠some g:=by
 obtain⟨gp,p,SA,sc,TT,tc,th,F,h1,h2,h3,h4,LA,h6,h7,h8,h9,dV,fa⟩:=h.ex;refine⟨fun k=>k=lb∨F k∨blk RA=some k,TT,tc,th,p,SA,sc,_,⟨⟨gp,p,_,_,RA,rn,rc,F,h1,h7,fa,fun k hk=>.inr (.inl hk),hr,h0,h5,fun g hg=>⟨.inr (.inr hg),fun e=>(hB g hg).2.1 (e▸h.lb),fun e=>(hB g hg).2.1 (h8 g e)⟩⟩,.inl rfl,fun k hk=>?_⟩,fun k hk=>?_,LA,h4,fun g hg=>⟨(dV g hg).1,fun e=>?_⟩,fun x hx=>⟨(h6 x hx).1,fun g hg=>⟨(h6 x hx).2 g hg,fun e=>?_⟩⟩,h1,rfl,rfl,h3,fun g hg=>⟨(h9 g hg).1,fun e=>?_,(h9 g hg).2.2.2⟩⟩
 ·rcases hk with rfl|e|e
  ·exact h.uB _ h.lb
  ·exact h.uB _ (h8 k e)
  exact(hB k e).1
 ·rcases hk with rfl|e|e
  ·exact .inl h.lb
  ·exact .inl (h8 k e)
  exact .inr e
 ·rcases e with e|e|e
  ·exact(dV g hg).2.1 e
  ·exact(dV g hg).2.2 e
  exact(hB g e).2.1 (dV g hg).1
 ·have ht:=(h6 x hx).2 g hg;rcases e with e|e|e
  ·exact h.ut g ht (e▸h.lb)
  ·exact h.ut g ht (h8 g e)
  exact(hB g e).2.2 ht
 rcases e with e|e|e
 ·exact(h9 g hg).2.1 e
 ·exact(h9 g hg).2.2.1 e
 exact(hB g e).2.1 (h9 g hg).1
theorem V1{ctl:LS→As→LS}{P:Nat→LS→Prop}{l:List Fr}{L:LS}{e:Nat}(bR:∀k M,P k M→M.st≠0)(hs:∀k M f,k<l.length→f∈l→P k M→P (k+1) (M.take ctl f))(h0:P 0 L):(L.frames ctl l e).st≠0:=by
 have hg:∀(r:List Fr) (k:Nat) (L:LS),k+r.length≤l.length→(∀f∈r,f∈l)→P k L→(L.goes ctl r).st≠0:=by
  intro r
  induction r with
  | nil=>intro k L _ _ h;exact bR k L h
  | cons f r ih=>
   intro k L hk hm h;by_cases h5:L.st=5
   ·rw[LS.goes_closed h5,h5];decide
   rw[LS.goes_cons ctl L f r h5];rw[z6]at hk;exact ih (k+1) _ Wq (fun g hg=>hm g (v3 _ hg)) (hs k L f Wq (hm f (v4 ..)) h)
 unfold LS.frames;split
 ·show(5:Nat)≠0;decide
 exact hg l 0 L Wq (fun _ h=>h) h0
theorem V2(ctl:LS→As→LS)(P:Nat→LS→Prop)(s b:List UInt8){V:Nat→Prop}{L:LS}(h:LkI w B V lb n b L)(he:MEnv w)(fB:0<B)(Bm:L.sz≤1000000)(dI:b.length≤100000000)(mS:s.length≤100000000)(Fy:L.st<256)
  (dg:n+(zu (L.pre b s).2).1.length<1000000000)
  (E8:∀k M,P k M→M.st≠0) (hP:∀k M,P k M→M.g.Inv∧M.sz≤1000000∧M.ch<65536∧M.sent.length≤10000000000∧M.told.length≤1000000000)
  (DI:∀k M f,k<(zu (L.pre b s).2).1.length→f∈(zu (L.pre b s).2).1→P k M→P (k+1) (M.take ctl f)) (pP:(L.pre b s).1.st≠0→(L.pre b s).1.st≠5→P 0 (L.pre b s).1) (nR:∀f∈(zu (L.pre b s).2).1,f.wf∧f.load.length≤1000000)
  (B6:∀k M f a A c W U' T' m RA' rn' rc',f∈(zu (L.pre b s).2).1→P k M→M.g.out f=some a→a.chan=0→LkM W B U' T' lb m RA' rn' rc' {M with g:=M.g.next f}→OwnG W 0 A a.segs.length c a.segs→(∀b,blk A=some b→T' b)→MEnv W→Below B w W→
   Calls prog 56 #[.pointer (some ⟨lb,0,none⟩),.agg (asV a.chan a.track A a.segs.length c)] W fun e w'=>e= .returned (.tuple #[])∧LStep W B U' T' lb m RA' rn' rc' (ctl {M with g:=M.g.next f} a) w'):
  Calls prog 12 #[.pointer (some ⟨lb,0,none⟩),.string (str s)] w (zb0 w B V lb (n+(zu (L.pre b s).2).1.length) (L.feed ctl b s)):=by
 obtain⟨gp,p,q,r,RA,rn,rc,F,hb,cL,d7,r7,hr,ho,ov,lc⟩:=h.ex;have cT:=h.lb;have hV:=h.v;have c0:=hb.c0;have c2:=hb.c2;have bR:=qD lb L.st gp w c0 c2;have im:=hr.length;by_cases h5:L.st=5
 ·have HF:L.feed ctl b s=({L with sent:=[],told:=[]},b):=by unfold LS.feed;rw[if_pos h5]
  rw[HF];rw[h5]at bR;rw[show((5:Nat):Int)=5 from rfl]at bR;have hI:LkI w B V lb (n+(zu (L.pre b s).2).1.length) b {L with sent:=[],told:=[]}:=⟨⟨gp,p,q,r,RA,rn,rc,F,hb,cL.mono Wq,d7,r7,hr,ho,ov,lc⟩,cT,hV⟩;clear B6 DI hP E8 pP c0 c2 hb h5;go_enter func12,ntmps12;go_wp2_with(with_reducible refine h_A ?_);refine bR.mono ?_;rintro e w1 ⟨rfl,rfl⟩;go_wp2_with(with_reducible refine h_A ?_);go_ret2;exact⟨V,none,0,[],rfl,hI,KeepF.refl _ _,fun k hk=>.inl hk,rfl,Own.none_ _ _ _ _,(fun g hg=>by cases hg),(fun x hx=>by cases hx)⟩
 have HF:L.feed ctl b s=LS.post ctl (L.pre b s):=by unfold LS.feed;rw[if_neg h5]
 rw[HF];clear HF;obtain⟨pr,Oo⟩:∃p,p=L.pre b s:=⟨_,rfl⟩
 rw[←Oo]at dg DI pP nR B6 ⊢;have Fl:=Q1 Oo;have tL:=Q1 B6;have GQ:=Q1 DI;have HP:=Q1 hP;have uN:=Q1 E8;clear Oo B6 DI hP E8;obtain⟨Q,hq⟩:∃q,q=LS.post ctl pr:=⟨_,rfl⟩
 rw[←hq];have HQ:=Q1 hq;clear hq;obtain⟨m,hm⟩:∃m,m=n+(zu pr.2).1.length:=⟨_,rfl⟩
 rw[←hm];have HM:=Q1 hm;clear hm;have tN:=kX (off:=5) w _ hb Wz;have dr:=zh s;have g5:¬(L.st:Int)=5:=by omega
 go_enter func12,ntmps12;go_wp2_with(with_reducible refine h_B ?_);refine bR.mono ?_;rintro e w1 ⟨rfl,rfl⟩;clear bR;go_wp2_with(with_reducible refine h_B ?_);refine tN.mono ?_;rintro e w1 ⟨rfl,bL,bM,cq⟩;clear tN c0 c2 cq;replace bL:Box w1 lb 61 #[.int .u8 (L.st:Int),.slice RA rn rc,.pointer (some ⟨gp,0,none⟩),.int .u64 (L.ch:Int),.int .u64 (L.sz:Int),.pointer none,.slice none 0 0,r]:=bL;go_wp2_with(with_reducible refine h_B ?_);refine zc (xx rfl rfl rfl rfl bL (j:=7) (v:=.slice none 0 0) rfl Wj Wz ?_);intro w2 bE Hm et;clear et;replace bE:Box w2 lb 61 #[.int .u8 (L.st:Int),.slice RA rn rc,.pointer (some ⟨gp,0,none⟩),.int .u64 (L.ch:Int),.int .u64 (L.sz:Int),.pointer none,.slice none 0 0,.slice none 0 0]:=bE;have c1:=bE.c1;have bK:KeepF (fun k=>k=lb) w w2:=(KeepF.grown (F:=fun k=>k=lb) bM (fun g hg=>.inl Hx)).trans (KeepF.grown (F:=fun k=>k=lb) Hm (fun g hg=>.inl Hx)) (fun k hk=>.inl hk);have dQ:KeepF V w w2:=bK.weak (fun g hg=>.inl (hg▸cT));have D4:Ga w2 F gp n L.g:=cL.keepF bK (fun k hk e=>d7 (e▸hk));clear bM Hm hb bL
 have fX:Own w2 B 5 1 RA rn rc (b.map u8v)∨rc=rn∧Rd w2 w.heap.size 1 RA rn rn (b.map u8v):=by
  by_cases h0:L.st=0
  ·exact .inl (zy (ho h0) bK (fun g hg e=>(lc g hg).2.1 e))
  have nL:rc=rn:=ov h0 h5;subst nL;exact .inr ⟨rfl,qu hr bK (Q2 _) (fun g hg e=>(lc g hg).2.1 e)⟩
 have Bl:=fun(h0:L.st=0)=>zy (ho h0) bK (fun g hg e=>(lc g hg).2.1 e)
 go_wp2_with(with_reducible refine h_B ?_);refine zc (QI (base:=B) slB underlying9 rfl rfl rfl rfl fX bK.1 (by have:=(hV _ cT).1;have:=bE.lt;omega) Wq (fun g hg=>⟨(hV g (lc g hg).1).1,Vy (hV g (lc g hg).1).2 bK.1⟩) ?_);intro A2 c2 w3 cl eN H7 mh Ej
 have eJ:∀g,blk A2=some g→g≠lb∧¬F g∧(V g∨w.heap.size≤g):=fun g hg=>by
  refine⟨?_,?_,?_⟩
  ·rcases mh with e|e
   ·rw[e]at hg;exact(lc g hg).2.1
   have:=e g hg;have:=bE.lt;omega
  ·rcases mh with e|e
   ·rw[e]at hg;exact(lc g hg).2.2
   intro hF;have:=e g hg;have:=D4.lt g hF;omega
  rcases mh with e|e
  ·rw[e]at hg;exact .inl (lc g hg).1
  have:=e g hg;have:=dQ.1;exact .inr Wq
 have bX:=bE.grown H7 (fun e=>(lc lb e.symm).2.1 rfl);clear c1;have c1:=bX.c1;go_wp2_with(with_reducible refine h_B ?_);refine zc (xx rfl rfl rfl rfl bX (j:=1) (v:=.slice A2 (rn+s.length) c2) rfl Wj Wz ?_);intro w4 dK Bb eX;clear eX c1;replace dK:Box w4 lb 61 #[.int .u8 (L.st:Int),.slice A2 (rn+s.length) c2,.pointer (some ⟨gp,0,none⟩),.int .u64 (L.ch:Int),.int .u64 (L.sz:Int),.pointer none,.slice none 0 0,.slice none 0 0]:=dK;have pK:KeepF (fun k=>k=lb) w3 w4:=KeepF.grown Bb (fun g hg=>.inl Hx);have eR:KeepF V w w4:=(dQ.trans (KeepF.grown (F:=V) H7 (fun g hg=>.inl (lc g hg).1)) (fun k hk=>.inl hk)).trans (pK.weak (G:=V) (fun g hg=>.inl (hg▸cT))) (fun k hk=>.inl hk)
 have so:L.st=0→Own w4 B 5 1 A2 (rn+s.length) c2 ((b++s).map u8v):=fun h0=>by
  have:=zy (eN (Bl h0)) pK (fun g hg=>(eJ g hg).1);rwa[←v5]at this
 have cV:RdB w4 w4.heap.size A2 (rn+s.length) c2 (b++s):=by
  have:=(qu cl pK (Q2 _) (fun g hg=>(eJ g hg).1)).more pK.1;rwa[←v5]at this
 have rx:Ga w4 F gp n L.g:=(D4.keepF (KeepF.grown (F:=fun k=>blk RA=some k) H7 (fun g hg=>.inl hg)) (fun k hk e=>(lc k e).2.2 hk)).keepF pK (fun k hk e=>d7 (e▸hk));have pT:∀g,blk A2=some g→(B≤g∧g<w4.heap.size)∧g≠lb∧¬F g∧(V g∨w.heap.size≤g):=fun g hg=>⟨⟨(Ej g hg).1,Vy (Ej g hg).2 pK.1⟩,eJ g hg⟩
 have wR:B≤lb:=(hV _ cT).1;have Cc:∀k,F k→B≤k:=fun k hk=>(hV k (r7 k hk)).1
 have oP:∀g,V g→B≤g:=fun g e=>(hV g e).1
 have bI:B≤w.heap.size:=by have:=hV _ cT;omega
 have hgV:¬V 0:=fun e=>by have:=(hV _ e).1;omega
 have CG:MEnv w4:=he.onK eR (fun e=>by have:=(hV _ e).1;omega);have iT:(b++s).length=rn+s.length:=by rw[KL,im]
 have SI:rn+s.length≤200000000:=by omega
 clear bE bX eN H7 mh Bb D4 eJ cL bK dQ hr ho ov fX Bl cl pK Ej lc hV;have c0:=dK.c0;go_upto_if 29 with fail
 have ek:pr.2.length≤200000000:=by
  rw[Fl.out];unfold LS.pre LS.beginL;split
  ·split
   ·show((b++s).drop 8).length≤_;rw[k9];omega
   split<;>(show(b++s).length≤_;omega)
  show(b++s).length≤_;omega
 generalize rn+s.length=N at*;go_cut []from 6 (fun wx=>LMid w B V lb n pr wx)
 case first=>
  have cH:=dK;clear pP nR tL GQ HP uN dg HQ HM;by_cases h0:L.st=0
  ·have GZ:Hid (pr=LS.beginL {L with sent:=[],told:=[]} (b++s)):=Q1 (by rw[Fl.out];unfold LS.pre;rw[if_pos h0]);rw[h0]at cH c0;rw[show((0:Nat):Int)=0 from rfl]at cH c0;have Sj:=so h0;(have cX:0≠lb:=by omega);have ny:=cV.max;have nL:=cV.cap;clear Fl so g5 h5;generalize b++s=r0 at*;by_cases q1:r0.take 8=hdrB
   ·have eP:=Zr lb L.sz B 0 0 N c2 w4.heap.size _ _ _ (.pointer none) A2 none [] r0 w4 CG cH cV (Q2 _) Bm (.inl rfl) (Own.none_ w4 B 5 1) zAd (by have:=dK.lt;omega) Wq Wq cX fB q1;have t3:Hid (pr=({L with st:=1,sent:=[]++hdrB++ctlB L.sz startB,told:=[]},r0.drop 8)):=Q1 (by rw[GZ.out];unfold LS.beginL;rw[if_pos q1]);clear GZ cH q1 Sj;go_wp2_with(with_reducible refine h_A ?_);refine eP.mono ?_;rintro e w5 ⟨rfl,hN8,⟨A3,c3,cJ,lX,rH,eD⟩,Bt⟩;clear eP;go_wp2_with(with_reducible refine h_A ?_);go_meet;rw[t3.out]
    have B0:∀k,blk A3=some k→w4.heap.size≤k:=fun k hk=>by
     rcases eD with e|e
     ·rw[e]at hk;cases hk
     exact e k hk
    have Eu:=dK.lt;have EQ:=rx.lt;have iW:Ga w5 F gp n L.g:=rx.keepF Bt (fun k hk e=>by rcases e with e|e;exact d7 (e▸hk);cases e);have hM:=LkM.start (L:={L with st:=1,sent:=[]++hdrB++ctlB L.sz startB,told:=[]}) rfl cJ (.inr rfl) lX iW Mx d7 Cc wR
    have dv:RdB w5 w5.heap.size (cutA A2 1 8 c2) (N-8) (c2-8) (r0.drop 8):=by
     have h1:=RdB.cut (lo:=8) (k:=N-8) cV Wq;rw[K1 mz]at h1;exact(qu h1 Bt (Q2 _) (fun g hg e=>by rw[jx]at hg;rcases e with e|e;exact(pT g hg).2.1 e;cases e)).more Bt.1
    refine⟨_,_,_,_,_,hM,dv,zAe,fun g hg=>?_,eR.trans Bt (fun k hk=>by rcases hk with e|e;exact .inl (e▸cT);cases e),fun k hk=>?_,fun k e=>e.elim⟩
    ·exact Z3j_
    exact Z5i_
   by_cases q2:r0.length<8∧r0=hdrB.take r0.length
   ·have eP:=Qg lb L.sz B 0 0 N c2 w4.heap.size _ _ _ (.pointer none) A2 none [] r0 w4 CG cH cV (Q2 _) Bm (.inl rfl) (Own.none_ w4 B 5 1) zAd (by have:=dK.lt;omega) Wq Wq cX fB Wq (by rw[←iT];exact q2.2);have t3:Hid (pr=({L with sent:=[],told:=[]},r0)):=Q1 (by rw[GZ.out];unfold LS.beginL;rw[if_neg q1,if_pos q2]);clear GZ cH q1 q2;go_wp2_with(with_reducible refine h_A ?_);refine eP.mono ?_;rintro e w5 ⟨rfl,bz⟩;clear eP;go_wp2_with(with_reducible refine h_A ?_);go_meet;rw[t3.out];have hM:=LkM.start (L:={L with sent:=[],told:=[]}) rfl (dK.below bz) (.inl rfl) (Own.none_ _ _ _ _) (rx.below bz) zAb d7 Cc wR;have pS:KeepF V w4 w5:=.below bz;refine⟨_,_,_,_,_,hM,(cV.below bz).more bz.size,fun _=>zi Sj bz,fun g hg=>?_,eR.trans pS (fun k hk=>.inl hk),fun k hk=>?_,fun k e=>e.elim⟩
    ·have h1:=pT g hg;refine⟨⟨h1.1.1,Vy h1.1.2 bz.size⟩,fun e=>?_,fun e=>e,h1.2.2.2⟩;rcases e with e|e|e
     ·exact h1.2.1 e
     ·exact h1.2.2.1 e
     cases e
    rcases hk with e|e|e
    ·exact .inl (e▸cT)
    ·exact .inl (r7 k e)
    cases e
   have eP:=Z8 lb L.sz B 0 0 N c2 w4.heap.size _ _ _ (.pointer none) A2 none [] r0 w4 CG cH cV (Q2 _) Bm (.inl rfl) (Own.none_ w4 B 5 1) zAd (by have:=dK.lt;omega) Wq Wq cX fB (fun e=>by
    by_cases h8:N<8
    ·exact q2 ⟨by omega,by rw[iT,←e,K1 Wq]⟩
    ·exact q1 (by rw[e,K1 nZ]))
   have t3:Hid (pr=({L with st:=5,sent:=[]++hdrB,told:=[]},r0)):=Q1 (by rw[GZ.out];unfold LS.beginL;rw[if_neg q1,if_neg q2]);clear GZ cH q1 q2 Sj;go_wp2_with(with_reducible refine h_A ?_);refine eP.mono ?_;rintro e w5 ⟨rfl,⟨A3,c3,cJ,lX,rH,eD⟩,Bt⟩;clear eP;go_wp2_with(with_reducible refine h_A ?_);go_meet;rw[t3.out]
   have B0:∀k,blk A3=some k→w4.heap.size≤k:=fun k hk=>by
    rcases eD with e|e
    ·rw[e]at hk;cases hk
    exact e k hk
   have Eu:=dK.lt;have EQ:=rx.lt;have iW:Ga w5 F gp n L.g:=rx.keepF Bt (fun k hk e=>by rcases e with e|e;exact d7 (e▸hk);cases e);have hM:=LkM.start (L:={L with st:=5,sent:=[]++hdrB,told:=[]}) rfl cJ (.inr rfl) lX iW Mx d7 Cc wR;refine⟨_,_,_,_,_,hM,(qu cV Bt (Q2 _) (fun g hg e=>by rcases e with e|e;exact(pT g hg).2.1 e;cases e)).more Bt.1,zAe,fun g hg=>?_,eR.trans Bt (fun k hk=>by rcases hk with e|e;exact .inl (e▸cT);cases e),fun k hk=>?_,fun k e=>e.elim⟩
   ·have qqei:=();exact Z3j_
   exact Z5i_
  have t3:Hid (pr=({L with sent:=[],told:=[]},b++s)):=Q1 (by rw[Fl.out];unfold LS.pre;rw[if_neg h0]);have g0:¬(L.st:Int)=0:=by omega
  clear Fl;go_wp2_with(with_reducible refine h_A ?_);go_meet;rw[t3.out];have hM:=LkM.start (L:={L with sent:=[],told:=[]}) rfl dK (.inl rfl) (Own.none_ _ _ _ _) rx zAb d7 Cc wR;refine⟨_,_,_,_,_,hM,cV,so,fun g hg=>?_,eR,fun k hk=>?_,fun k e=>e.elim⟩
  ·have h1:=pT g hg;refine⟨h1.1,fun e=>?_,fun e=>e,h1.2.2.2⟩;rcases e with e|e|e
   ·exact h1.2.1 e
   ·exact h1.2.2.1 e
   cases e
  rcases hk with e|e|e
  ·exact .inl (e▸cT)
  ·exact .inl (r7 k e)
  cases e
 clear dK c0 rx pT so cV CG iT SI eR Cc r7 d7;obtain⟨U,T,RB,rm,rd,hM,dv,gA,oU,Bt,Cy,Ds⟩:=hcut;have c0:=hM.c0;have P5:=dv.length;go_upto_region 8 with fail;obtain⟨go,fL⟩:∃x,x=decide (¬pr.1.st=0∧¬pr.1.st=5):=⟨_,rfl⟩
 have iE:=Q1 fL;clear fL;go_cut [43]from 6 (fun s43 wx=>s43= .bool go∧wc=wx)
 case first=>
  clear Fl HP GQ uN tL HQ HM pP nR dg dv gA hM;by_cases p0:pr.1.st=0
  ·(obtain rfl:go=false:=by rw[iE.out];simp[p0]);rw[p0]at c0;rw[show((0:Nat):Int)=0 from rfl]at c0;clear p0 iE;exact Z6h_
  have d0:((pr.1.st:Int)!=0)=true:=by simp;omega
  by_cases p5:pr.1.st=5
  ·(obtain rfl:go=false:=by rw[iE.out];simp[p5]);rw[p5]at c0;rw[show((5:Nat):Int)=5 from rfl]at c0;exact Z62_
  obtain rfl:go=true:=by rw[iE.out];simp[p0,p5]
  have d5:((pr.1.st:Int)!=5)=true:=by simp;omega
  exact Z62_
 case rest=>
 obtain⟨rfl,rfl⟩:=hcut;clear c0;go_upto_if 43 with fail
 go_cut []from 6 (fun wx=>∃(U T:Nat→Prop) (RA:Option Addr) (rn rc:Nat),LkM wx B U T lb m RA rn rc Q.1∧RdB wx wx.heap.size RA rn rc Q.2∧(Q.1.st=0→Own wx B 5 1 RA rn rc (Q.2.map u8v))∧(Q.1.st≠0→Q.1.st≠5→rc=rn)∧
  (∀g,blk RA=some g→(B≤g∧g<wx.heap.size)∧¬U g∧¬T g∧(V g∨w.heap.size≤g))∧KeepF V w wx∧(∀k,U k→V k∨w.heap.size≤k)∧∀k,T k→V k∨w.heap.size≤k)
 case first=>
  by_cases p0:pr.1.st=0
  ·have i9:Hid (Q=pr):=Q1 (by rw[HQ.out];unfold LS.post;rw[if_pos (.inl p0)]);(obtain rfl:go=false:=by rw[iE.out];simp[p0]);go_wp2_with(with_reducible refine h_A ?_);go_meet;rw[i9.out];exact⟨U,T,RB,rm,rd,hM.mono (by have:=HM.out;omega),dv,gA,fun e=>absurd p0 e,oU,Bt,Cy,Ds⟩
  by_cases p5:pr.1.st=5
  ·have i9:Hid (Q=pr):=Q1 (by rw[HQ.out];unfold LS.post;rw[if_pos (.inr p5)]);(obtain rfl:go=false:=by rw[iE.out];simp[p5]);go_wp2_with(with_reducible refine h_A ?_);go_meet;rw[i9.out];exact⟨U,T,RB,rm,rd,hM.mono (by have:=HM.out;omega),dv,gA,fun _ e=>absurd p5 e,oU,Bt,Cy,Ds⟩
  have i9:Hid (Q=(pr.1.frames ctl (zu pr.2).1 (zu pr.2).2.2,pr.2.drop (zu pr.2).2.1)):=Q1 (by rw[HQ.out];unfold LS.post;rw[if_neg Wq]);have nP:=Qz ctl P pr.2 hM dv (fun g hg=>(oU g hg).2.1) Wq (by have:=(vo pr.2).2;omega) dg (he.onK Bt hgV) fB HP.out GQ.out (pP p0 p5) nR (fun k M f a A c W U' T' m RA' rn' rc' e1 e2 e3 e4 e5 e6 e7 e8 e9=>tL.out k M f a A c W U' T' m RA' rn' rc' e1 e2 e3 e4 e5 e6 e7 e8 ((Bt.toBelow bI oP).trans e9));obtain rfl:go=true:=by rw[iE.out];simp[p0,p5]
  have mY:Hid (pr.1.st≠0→pr.1.st≠5→(pr.1.frames ctl (zu pr.2).1 (zu pr.2).2.2).st≠0):=Q1 (fun p0 p5=>V1 uN.out GQ.out (pP p0 p5));clear HP GQ tL pP nR uN;go_wp2_with(with_reducible refine h_A ?_);refine nP.mono ?_;rintro e w6 ⟨rfl,RA',⟨U',T',CW,hk',nW,sD⟩,hR',dI⟩;clear nP;go_wp2_with(with_reducible refine h_A ?_);go_meet;rw[i9.out];refine⟨U',T',RA',_,_,by rw[HM.out];exact CW,hR',fun e=>?_,fun _ _=>rfl,fun g hg=>?_,Bt.trans hk' Cy,fun k hk=>?_,fun k hk=>?_⟩
  ·exact absurd e (mY.out p0 p5)
  ·have h1:=oU g (by rcases dI with e|e;rw[←e];exact hg;rw[e]at hg;cases hg);have hz:=hk'.1;refine⟨⟨h1.1.1,Vy h1.1.2 hz⟩,fun e=>?_,fun e=>?_,h1.2.2.2⟩
   ·rcases nW g e with e|e
    ·exact h1.2.1 e
    omega
   rcases sD g e with e|e|e
   ·exact h1.2.2.1 e
   ·exact h1.2.1 e
   omega
  ·have hz:=Bt.1;rcases nW k hk with e|e
   ·exact Cy k e
   exact .inr Wq
  have hz:=Bt.1;rcases sD k hk with e|e|e
  ·exact Ds k e
  ·exact Cy k e
  exact .inr Wq
 clear hM dv gA oU Bt Cy Ds Fl HP GQ uN tL pP nR ek P5 dg;obtain⟨U,T,RA,rn,rc,hM,mo,lX,TG,sF,gj,OM,Wy⟩:=hcut;obtain⟨V',TT,tc,th,p,SA,sc,cs,hI,Wm,U8,UW,Us,U5,cU,e6,e7,Uu,np⟩:=hM.idle mo lX TG (fun g hg=>⟨(sF g hg).1,(sF g hg).2.1,(sF g hg).2.2.1⟩);have ND:=hM.ut;have HTD:=Q1 U8;clear U8 hM mo lX TG;go_wp2;refine zt (fun W:World=>Box W lb 61 cs) Wj ?_;have hS:Box wc.drew lb 61 cs:=cU;have lE:Own wc.drew B 5 1 SA Q.1.sent.length sc (Q.1.sent.map u8v):=Uu;have iq:KeepF V wc wc.drew:=.below (za (kI _ _) 1);have G2:LkI wc.drew B V' lb m Q.2 Q.1:=hI.keep (G:=fun _=>False) (.below (za (kI _ _) 1)) (fun _ _ e=>e);have RX:OwnT wc.drew B TT Q.1.told.length tc th:=UW;have AZ:∀x∈th,OwnG wc.drew 0 x.A x.a.segs.length x.c x.a.segs∧∀g,blk x.A=some g→T g∧¬V' g:=U5
 have ic:=gj.trans iq (fun k hk=>.inl hk);have hzc:w.heap.size≤wc.drew.heap.size:=ic.1;clear cU Uu iq hI UW U5 gj;generalize wc.drew=w7 at*;have uM:=kZ (off:=5) (n:=Q.1.sent.length) (c:=sc) w7 cs hS SA Q.1.sent e6 lE;refine rg_t 0 hS ?_;simp only[v9,vv,Act.put,j1,j2,j8];refine rg_t 1 hS ?_;simp only[g_S];refine rg_t 2 hS ?_;simp only[g_S];refine rg_t 4 hS ?_;simp only[g_S];refine rg_t 5 hS ?_;simp only[g_S];refine rg_t 6 hS ?_;simp only[g_S];refine ze 7 (v:=?_) rfl Wj Wj Wj hS rfl ?_ ?_;rotate_left
 ·intro wS He;have k0:=He.cell e7;go_simp;(with_reducible rfl)
 simp only[g_S];refine zj 3 rfl Wj rfl (fun K hK=>?_);go_simp
 (with_reducible refine uM.mono ?_)
 rintro e w8 ⟨rfl,gH⟩;have UD:∀k,V' k→¬blk SA=some k:=fun k hk e=>(np k e).2.1 hk
 have cI:=zV hS gH (UD _ G2.lb);refine hK _ _ cI ?_;clear hK K;try simp only[g_S]
 refine rg_t 8 cI ?_;simp only[g_S];refine rg_t 9 cI ?_;simp only[g_S];refine zD Wj ?_;go_wp2_with(with_reducible refine h_B ?_);go_ret2;refine⟨V',TT,tc,th,rfl,G2.keep gH UD,ic.trans gH (fun k hk=>OM k (np k hk).1),fun k hk=>?_,HTD.out,zy RX gH (fun g hg e=>(np g e).2.2 hg),fun g hg=>⟨(Us g hg).2,OM g (Us g hg).1⟩,fun x hx=>⟨zy (AZ x hx).1 gH (fun g hg e=>ND g ((AZ x hx).2 g hg).1 (np g e).1),fun g hg=>⟨((AZ x hx).2 g hg).2,Wy g ((AZ x hx).2 g hg).1⟩⟩⟩;rcases Wm k hk with e|e
 ·exact OM k e
 exact(sF k e).2.2.2
theorem zcU{gp:Nat}(hb:Box w lb 61 (lk0 gp))(cL:Ga w F gp 0 GS.new)(d7:¬F lb)(hF:∀k,F k→B≤k)(cT:B≤lb):LkI w B (fun k=>k=lb∨F k) lb 0 [] ⟨0,255,4096,GS.new,[],[]⟩where
 ex:=⟨gp,_,_,_,none,0,0,F,hb,cL,d7,fun k h=>.inr h,Rd.nil _ _ _ _ WX _,fun _=>Own.none_ _ _ _ _,fun h=>absurd rfl h,fun g hg=>by cases hg⟩
 lb:=.inl rfl
 v:=fun k hk=>by
  rcases hk with rfl|h
  ·exact⟨cT,hb.lt⟩
  exact⟨hF k h,cL.lt k h⟩
end Go.PH
section
namespace Go.PH
theorem J8(l:List Fr):(xw l).length≤12*l.length+zI l:=by
 induction l with
 | nil=>simp[xw,zI]
 | cons f r ih=>
  have e:xw (f::r)=f.put++xw r:=rfl
  have hp:f.put.length≤12+f.load.length:=by
   unfold Fr.put;split
   ·rw[f.bytes_length];omega
   simp
  rw[e,KL,z6,zI];omega
theorem XU(most chan track n:Nat):∀(l:List Sg) (i:Nat),zI (cutL most chan track n i l)=yK l
 | [],_=>by simp[cutL,zI,yK]
 | s::r,i=>by rw[cutL,qz,Xb,XU most chan track n r,yK]
theorem jl(sz:Nat)(bs:List UInt8):(ctlB sz bs).length≤13*bs.length+12:=by
 unfold ctlB qR;have h:=J8 (cutF ((sz:Int)-12) ⟨0,0,[⟨0,bs⟩]⟩);unfold cutF at h ⊢;split at h
 ·rename_i hc
  rw[if_pos hc];unfold yP at hc;split at hc
  ·omega
  have hm:1≤((sz:Int)-12).toNat:=by omega
  have h1:(vr ((sz:Int)-12).toNat ⟨0,0,[⟨0,bs⟩]⟩).length≤bs.length+1:=by
   have:=YH ((sz:Int)-12).toNat 0 0 1 hm [⟨0,bs⟩] 0;simpa[vr,yK]using this
  have h2:zI (vr ((sz:Int)-12).toNat ⟨0,0,[⟨0,bs⟩]⟩)=bs.length:=by
   have:=XU ((sz:Int)-12).toNat 0 0 1 [⟨0,bs⟩] 0;simpa[vr,yK]using this
  omega
 rename_i hc
 rw[if_neg hc];simp[xw]
structure LB(S N k:Nat)(M:LS):Prop where
 kn:k≤N
 inv:M.g.Inv
 sz:M.sz≤4096
 ch:M.ch≤255
 st:M.st≠0
 st':M.st<256
 sent:M.sent.length≤S+20000*k
 told:M.told.length≤k
theorem LB.close{S N k:Nat}{M:LS}(h:LB S N k M)(hk:k<N)(code:Nat)(text:List UInt8)(ht:text.length≤100):LB S N (k+1) (M.close code text)where
 kn:=hk
 inv:=h.inv
 sz:=h.sz
 ch:=h.ch
 st:=by show(5:Nat)≠0;decide
 st':=by show(5:Nat)<256;decide
 sent:=by
  have h1:=jl M.sz (xV code text);have h2:=h.sent;have h3:(xV code text).length≤107:=by simp[xV,zr];omega
  show(M.sent++ctlB M.sz (xV code text)).length≤_
  rw[KL];omega
 told:=by have:=h.told;show M.told.length≤_;omega
theorem LB.sends{S N k:Nat}{M:LS}(h:LB S N k M)(hk:k<N)(bs:List UInt8)(hb:bs.length≤100)(st:Nat)(h0:st≠0)(h1:st<256):LB S N (k+1) {M.send bs with st:=st}where
 kn:=hk
 inv:=h.inv
 sz:=h.sz
 ch:=h.ch
 st:=h0
 st':=h1
 sent:=by
  have h1:=jl M.sz bs;have h2:=h.sent;show(M.sent++ctlB M.sz bs).length≤_
  rw[KL];omega
 told:=by have:=h.told;show M.told.length≤_;omega
theorem LB.more{S N k:Nat}{M:LS}(h:LB S N k M)(hk:k<N):LB S N (k+1) M where
 kn:=hk
 inv:=h.inv
 sz:=h.sz
 ch:=h.ch
 st:=h.st
 st':=h.st'
 sent:=by have:=h.sent;omega
 told:=by have:=h.told;omega
theorem LB.ctlM{S N k:Nat}{M:LS}(h:LB S N k M)(hk:k<N)(a:As)(m:Mt)(er:Int):LB S N (k+1) (M.ctlM a m er):=by
 unfold LS.ctlM;split
 ·exact h.close hk _ _ WJ
 split
 ·exact h.sends hk _ WJ 2 WJ WJ
 split
 ·unfold LS.tuned;split
  ·exact h.close hk _ _ WJ
  rename_i hn
  have h1:=h.more hk;exact⟨h1.kn,h1.inv,by show(m.args.getD 1 (ag0 false)).n≤4096;omega,by show(m.args.getD 0 (ag0 false)).n≤255;omega,by show(3:Nat)≠0;decide,by show(3:Nat)<256;decide,h1.sent,h1.told⟩
 split
 ·unfold LS.opened;split
  ·exact h.close hk _ _ WJ
  exact h.sends hk _ WJ 4 WJ WJ
 split
 ·exact h.sends hk _ WJ 5 WJ WJ
 exact h.close hk _ _ WJ
theorem LB.take{S N k:Nat}{M:LS}(h:LB S N k M)(hk:k<N){f:Fr}(hf:f.wf)(ctl:LS→As→LS)(B6:∀(L:LS) (a:As),LB S N k L→LB S N (k+1) (ctl L a)):LB S N (k+1) (M.take ctl f):=by
 have hn:LB S N k {M with g:=M.g.next f}:=⟨h.kn,h.inv.next hf,h.sz,h.ch,h.st,h.st',h.sent,h.told⟩;unfold LS.take;split
 ·exact h.close hk _ _ WJ
 split
 ·split
  ·exact hn.more hk
  exact hn.close hk _ _ WJ
 split
 ·exact B6 _ _ hn
 split
 ·have h1:=hn.more hk;exact⟨h1.kn,h1.inv,h1.sz,h1.ch,h1.st,h1.st',h1.sent,by have:=h.told;show(M.told++ [_]).length≤_;rw[KL];simp;omega⟩
 exact hn.close hk _ _ WJ
theorem LB.bounds{S N k:Nat}{M:LS}(hS:S≤1000000000)(hN:N≤400000)(h:LB S N k M):M.g.Inv∧M.sz≤1000000∧M.ch<65536∧M.sent.length≤10000000000∧M.told.length≤1000000000:=by
 have h1:=h.kn;have h2:=h.sz;have h3:=h.ch;have h4:=h.sent;have h5:=h.told;exact⟨h.inv,by omega,by omega,by omega,by omega⟩
theorem Yz:zu []=([],0,0):=xa WJ WJ
end Go.PH
end
namespace Go.PH
open Go.RowKit Go.Proofs Go.Proofs.Tryz
variable {bad is : Bool} {e : Ending} {l : List UInt8} {B base c cb lb n o rb vb : Nat} {F : Nat → Prop} {A : Option Addr} {W w w' wr wr' : World}
section
def LS.lead(L:LS)(s:List UInt8)(t:List As):LS:={L with sent:=s++L.sent,told:=t++L.told}
def LS.core(L:LS):LS:={L with sent:=[],told:=[]}
theorem LS.core_lead(L:LS):L.core.lead L.sent L.told=L:=by
 cases L;simp[LS.core,LS.lead]
theorem LS.lead_close(L:LS)(c:Nat)(x s:List UInt8)(t:List As):(L.lead s t).close c x=(L.close c x).lead s t:=by
 simp[LS.lead,LS.close]
theorem LS.lead_send(L:LS)(b s:List UInt8)(t:List As):(L.lead s t).send b=(L.send b).lead s t:=by
 simp[LS.lead,LS.send]
theorem LS.lead_ctlM(L:LS)(a:As)(m:Mt)(er:Int)(s:List UInt8)(t:List As):(L.lead s t).ctlM a m er=(L.ctlM a m er).lead s t:=by
 have h:(L.lead s t).st=L.st:=rfl;unfold LS.ctlM;rw[h,LS.lead_close];split
 ·rfl
 split
 ·rw[LS.lead_send];rfl
 split
 ·unfold LS.tuned;rw[LS.lead_close];split<;>rfl
 split
 ·unfold LS.opened;rw[LS.lead_close,LS.lead_send];split<;>rfl
 split
 ·rw[LS.lead_send];rfl
 rfl
structure CtlOk(ctl:LS→As→LS):Prop where
 lead:∀L a s t,ctl (LS.lead L s t) a=(ctl L a).lead s t
 st:∀L a,L.st≠0→(ctl L a).st≠0
theorem LS.ctlM_st(L:LS)(a:As)(m:Mt)(er:Int)(h:L.st≠0):(L.ctlM a m er).st≠0:=by
 unfold LS.ctlM;split
 ·show(5:Nat)≠0;decide
 split
 ·show(2:Nat)≠0;decide
 split
 ·unfold LS.tuned;split
  ·show(5:Nat)≠0;decide
  show(3:Nat)≠0;decide
 split
 ·unfold LS.opened;split
  ·show(5:Nat)≠0;decide
  show(4:Nat)≠0;decide
 split
 ·show(5:Nat)≠0;decide
 show(5:Nat)≠0;decide
section
variable {ctl : LS → As → LS} (hc : CtlOk ctl)
include hc
theorem XZ(L:LS)(f:Fr)(s:List UInt8)(t:List As):(L.lead s t).take ctl f=(L.take ctl f).lead s t:=by
 unfold LS.take;have h1:(L.lead s t).sz=L.sz:=rfl;have h2:(L.lead s t).ch=L.ch:=rfl;have h3:(L.lead s t).g=L.g:=rfl;have h4:(L.lead s t).st=L.st:=rfl;rw[h1,h2,h3,h4,LS.lead_close];split
 ·rfl
 split
 ·split
  ·rfl
  exact LS.lead_close {L with g:=L.g.next f} _ _ _ _
 split
 ·exact hc.lead {L with g:=L.g.next f} _ _ _
 split
 ·simp[LS.lead]
 exact LS.lead_close {L with g:=L.g.next f} _ _ _ _
theorem zac(L:LS)(f:Fr)(h:L.st≠0):(L.take ctl f).st≠0:=by
 unfold LS.take;split
 ·show(5:Nat)≠0;decide
 split
 ·split
  ·exact h
  show(5:Nat)≠0;decide
 split
 ·exact hc.st _ _ h
 split
 ·exact h
 show(5:Nat)≠0;decide
theorem X0(s:List UInt8)(t:List As):∀(l:List Fr) (L:LS),(L.lead s t).goes ctl l=(L.goes ctl l).lead s t
 | [],_=>rfl
 | f::l,L=>by
  by_cases h:L.st=5
  ·rw[LS.goes_closed h,LS.goes_closed (L:=L.lead s t) h]
  rw[LS.goes_cons ctl L f l h,LS.goes_cons ctl (L.lead s t) f l h,XZ hc,X0 s t l]
theorem zad:∀(l:List Fr) (L:LS),L.st≠0→(L.goes ctl l).st≠0
 | [],_,h=>h
 | f::l,L,h=>by
  by_cases h5:L.st=5
  ·rw[LS.goes_closed h5];exact h
  rw[LS.goes_cons ctl L f l h5];exact zad l _ (zac hc L f h)
theorem QK(L:LS)(l:List Fr)(e:Nat)(s:List UInt8)(t:List As):(L.lead s t).frames ctl l e=(L.frames ctl l e).lead s t:=by
 unfold LS.frames;rw[X0 hc];have h:((L.goes ctl l).lead s t).st=(L.goes ctl l).st:=rfl;rw[h,LS.lead_close];split<;>rfl
theorem Kg(L:LS)(l:List Fr)(e:Nat)(h:L.st≠0):(L.frames ctl l e).st≠0:=by
 unfold LS.frames;split
 ·show(5:Nat)≠0;decide
 exact zad hc l L h
theorem zae(p:LS×List UInt8)(s:List UInt8)(t:List As):LS.post ctl (p.1.lead s t,p.2)=((LS.post ctl p).1.lead s t,(LS.post ctl p).2):=by
 unfold LS.post;have h:(p.1.lead s t).st=p.1.st:=rfl;simp only[h];split
 ·rfl
 rw[QK hc]
theorem zbG(L:LS)(r s:List UInt8)(h0:L.st≠0)(h5:L.st≠5):
  ((LS.post ctl (L,r)).1.st=5∧(LS.post ctl (L,r++s)).1=(LS.post ctl (L,r)).1)∨
  ((LS.post ctl (L,r)).1.st≠5∧(LS.post ctl (L,r)).1.st≠0∧LS.post ctl (L,r++s)=LS.post ctl ((LS.post ctl (L,r)).1,(LS.post ctl (L,r)).2++s)):=by
 have e1:∀x,LS.post ctl (L,x)=(L.frames ctl (zu x).1 (zu x).2.2,x.drop (zu x).2.1):=fun x=>by
  unfold LS.post;simp only;rw[if_neg Wq]
 rw[e1 r,e1 (r++s)];obtain⟨ha,hb⟩:=Kd r s;have bR:=Kg hc L (zu r).1 (zu r).2.2 h0;by_cases he:(zu r).2.2=0
 ·have h1:=ha he;have e2:L.frames ctl (zu r).1 (zu r).2.2=L.goes ctl (zu r).1:=by unfold LS.frames;rw[if_neg (fun h=>h.1 he)]
  by_cases hq:(L.goes ctl (zu r).1).st=5
  ·left;simp only;rw[e2];refine⟨hq,?_⟩;rw[h1];unfold LS.frames;simp only;rw[LS.goes_append,LS.goes_closed hq,if_neg (fun h=>h.2 hq)]
  right;simp only;rw[e2]at bR ⊢;refine⟨hq,bR,?_⟩;unfold LS.post;simp only;rw[if_neg Wq,h1];simp only
  have e3:∀l e,L.frames ctl ((zu r).1++l) e=(L.goes ctl (zu r).1).frames ctl l e:=fun l e=>by
   unfold LS.frames;rw[LS.goes_append]
  rw[e3,←z7,z8 (vo r).2]
 left;rw[hb he];refine⟨?_,rfl⟩;simp only;unfold LS.frames;split
 ·rfl
 rename_i h
 exact Classical.byContradiction fun h'=>h ⟨he,h'⟩
theorem zbH(L:LS)(b s1 s2:List UInt8):
  (LS.feed ctl L b (s1++s2)).1=(LS.feed ctl (LS.feed ctl L b s1).1 (LS.feed ctl L b s1).2 s2).1.lead (LS.feed ctl L b s1).1.sent (LS.feed ctl L b s1).1.told∧
  ((LS.feed ctl L b (s1++s2)).1.st≠5→(LS.feed ctl L b (s1++s2)).2=(LS.feed ctl (LS.feed ctl L b s1).1 (LS.feed ctl L b s1).2 s2).2):=by
 by_cases h5:L.st=5
 ·have e:∀s,LS.feed ctl L b s=(L.core,b):=fun s=>by unfold LS.feed;rw[if_pos h5];rfl
  have e':∀s,LS.feed ctl L.core b s=(L.core,b):=fun s=>by unfold LS.feed;rw[if_pos (by exact h5)];rfl
  rw[e,e];simp only;rw[e'];exact⟨rfl,fun _=>rfl⟩
 have e:∀s,LS.feed ctl L b s=LS.post ctl (L.pre b s):=fun s=>by unfold LS.feed;rw[if_neg h5]
 rw[e,e]
 have fL:∀(M:LS) (r:List UInt8),M.st≠0→M.st≠5→
   (LS.post ctl (M,r++s2)).1=(LS.feed ctl (LS.post ctl (M,r)).1 (LS.post ctl (M,r)).2 s2).1.lead (LS.post ctl (M,r)).1.sent (LS.post ctl (M,r)).1.told∧
   ((LS.post ctl (M,r++s2)).1.st≠5→(LS.post ctl (M,r++s2)).2=(LS.feed ctl (LS.post ctl (M,r)).1 (LS.post ctl (M,r)).2 s2).2):=by
  intro M r m0 m5;rcases zbG hc M r s2 m0 m5 with⟨q1,q2⟩|⟨q1,q2,q3⟩
  ·generalize LS.post ctl (M,r)=p at*;(have e2:LS.feed ctl p.1 p.2 s2=(p.1.core,p.2):=by unfold LS.feed;rw[if_pos q1];rfl);rw[e2,q2];exact⟨(LS.core_lead _).symm,fun h=>absurd q1 h⟩
  ·rw[q3];generalize LS.post ctl (M,r)=p at*;(have e2:LS.feed ctl p.1 p.2 s2=LS.post ctl (p.1.core,p.2++s2):=by unfold LS.feed LS.pre;rw[if_neg q1,if_neg q2];rfl);have e3:=zae hc (p.1.core,p.2++s2) p.1.sent p.1.told;simp only at e3;rw[LS.core_lead]at e3;rw[e2,e3];exact⟨rfl,fun _=>rfl⟩
 by_cases h0:L.st=0
 ·have hp:∀s,L.pre b s=LS.beginL L.core (b++s):=fun s=>by unfold LS.pre;rw[if_pos h0];rfl
  rw[hp,hp,←K2];generalize b++s1=r;unfold LS.beginL;by_cases q1:r.take 8=hdrB
  ·have ss:8≤r.length:=by
    have:=congrArg zB q1;rw[List.length_take]at this;have:hdrB.length=8:=rfl;omega
   rw[if_pos q1,if_pos (by rw[z9 ss];exact q1),z8 ss];exact fL _ _ zAe zAe
  rw[if_neg q1];by_cases q2:r.length<8∧r=hdrB.take r.length
  ·rw[if_pos q2];(have e2:LS.post ctl (L.core,r)=(L.core,r):=by unfold LS.post;rw[if_pos (.inl h0)]);rw[e2]
   have e3:LS.feed ctl L.core r s2=LS.post ctl (LS.beginL L.core (r++s2)):=by
    unfold LS.feed LS.pre;rw[if_neg (by exact h5),if_pos (by exact h0)];rfl
   simp only;rw[e3];unfold LS.beginL;exact⟨by simp[LS.lead,LS.core],fun _=>rfl⟩
  rw[if_neg q2]
  have k1:¬(r++s2).take 8=hdrB:=fun e=>by
   by_cases hl:8≤r.length
   ·rw[z9 hl]at e;exact q1 e
   refine q2 ⟨by omega,?_⟩;have:=congrArg (List.take r.length) e;rw[yB,zA Wq,yA rfl]at this;exact this
  have k2:¬((r++s2).length<8∧r++s2=hdrB.take (r++s2).length):=fun e=>by
   rw[KL]at e;refine q2 ⟨by omega,?_⟩;have:=congrArg (List.take r.length) e.2;rw[yB,zA Wq,yA rfl]at this;exact this
  rw[if_neg k1,if_neg k2];have e2:∀x:List UInt8,LS.post ctl ({L.core with st:=5,sent:=L.core.sent++hdrB},x)=({L.core with st:=5,sent:=L.core.sent++hdrB},x):=fun x=>by unfold LS.post;rw[if_pos (.inr rfl)]
  rw[e2,e2];simp only;have e3:∀M:LS,M.st=5→LS.feed ctl M r s2=(M.core,r):=fun M hm=>by unfold LS.feed;rw[if_pos hm];rfl
  rw[e3 _ rfl];exact⟨(LS.core_lead _).symm,fun h=>absurd rfl h⟩
 have hp:∀s,L.pre b s=(L.core,b++s):=fun s=>by unfold LS.pre;rw[if_neg h0];rfl
 rw[hp,hp,←K2];exact fL _ _ h0 h5
end
end
end Go.PH
section
namespace Go.PH
theorem ZU:∀(l l':List Sp) (R S:List UInt8),l.length=l'.length→spOK 4294967296 l→spOK 4294967296 l'→yg l++R=yg l'++S→l=l'∧R=S
 | [],[],R,S,_,_,_,h=>⟨rfl,h⟩
 | [],_::_,_,_,hl,_,_,_=>by simp at hl
 | _::_,[],_,_,hl,_,_,_=>by simp at hl
 | a::l,b::l',R,S,hl,h1,h2,h=>by
  have e1:yg (a::l)=be 4 a.1++be 4 a.2++yg l:=rfl;have e2:yg (b::l')=be 4 b.1++be 4 b.2++yg l':=rfl;rw[e1,e2]at h;simp only[K2]at h;have ha:=h1 a (v4 ..);have hb:=h2 b (v4 ..);obtain⟨p1,h⟩:=kw (i:=4) ha.1 hb.1 h;obtain⟨p2,h⟩:=kw (i:=4) ha.2 hb.2 h;obtain⟨p3,p4⟩:=ZU l l' R S zAg (fun x hx=>h1 x (v3 _ hx)) (fun x hx=>h2 x (v3 _ hx)) h;exact⟨by rw[p3,show a=b from Prod.ext p1 p2],p4⟩
theorem VQ{l l':List Sp}{R S:List UInt8}(e:yf l=0)(e':yf l'=0)(h1:spOK 4294967296 l)(h2:spOK 4294967296 l')(h:yL l++R=yL l'++S):l=l'∧R=S:=by
 have g:∀{m:List Sp},yf m=0→yL m=be 2 (8*m.length)++yg m∧m.length≤1000:=by
  intro m hm;unfold yf at hm;split at hm
  ·rename_i hr
   split at hm
   ·rename_i hl
    exact⟨by unfold yL;rw[if_pos ⟨hr,hl⟩],hl⟩
   omega
  omega
 obtain⟨g1,g2⟩:=g e;obtain⟨g3,g4⟩:=g e';rw[g1,g3,K2,K2]at h;obtain⟨p1,h⟩:=kw (i:=2) Wq Wq h;exact ZU l l' R S Wq h1 h2 h
theorem VR{x y:Xd}{R S:List UInt8}(hx:x.fmt<4294967296)(hy:y.fmt<4294967296)(kx:x.err=0)(ky:y.err=0)(h:x.put++R=y.put++S):x=y∧R=S:=by
 have g:∀{z:Xd},z.err=0→z.ok=true:=by
  intro z hz;unfold Xd.err at hz;split at hz
  ·rename_i h;exact h
  omega
 have ox:=g kx;have oy:=g ky;rw[Xd.put_ok ox,Xd.put_ok oy]at h;have h1:=vG hx ox R;have h2:=vG hy oy S;rw[h,h2]at h1;simp only[Prod.mk.injEq]at h1;exact⟨h1.1.symm,h1.2.1.symm⟩
structure AB(a:Ag):Prop where
 n:a.n<18446744073709551616
 x:a.x.fmt<4294967296
 q:spOK 4294967296 a.q
 v:VB a.v
theorem RA.ab{w:World}{F:Nat→Prop}{a:Ag}{h:AH}(ha:RA w F a h):AB a:=⟨ha.n,ha.x.1,ha.ok,ha.v.vb⟩
theorem vM{s:List UInt8}{i:Nat}(hi:i=1∨i=2)(h:zE s.length (i:Int)=0):s.length<256 ^ i∧zP [] s (i:Int)=be i s.length++s:=by
 refine⟨?_,by rw[yS h];simp⟩;unfold zE at h;rcases hi with rfl|rfl<;>simp at h<;>exact h
theorem zcM{kd:UInt8}(hk:kd∈jX){a b:Ag}{R S:List UInt8}(ba:AB a)(bb:AB b)(ha:okA kd a=true)(hb:okA kd b=true)(BQ:a.is=b.is)(h:byA kd a++R=byA kd b++S):a=b∧R=S:=by
 unfold jX at hk;simp only[q7,q8,or_false]at hk;rcases hk with rfl|rfl|rfl|rfl|rfl|rfl|rfl|rfl|rfl
 ·have ea:=(zL _ _).1 (show zw a (ag0 a.is)=true from ha);have eb:=(zL _ _).1 (show zw b (ag0 b.is)=true from hb);exact⟨by rw[ea,eb,BQ],h⟩
 ·obtain⟨na,ea⟩:=Bool.and_eq_true _ _▸(show(decide (a.n<256)&&zw a (agN a))=true from ha);obtain⟨nb,eb⟩:=Bool.and_eq_true _ _▸(show(decide (b.n<256)&&zw b (agN b))=true from hb);obtain⟨e,h2⟩:=kw (i:=1) (by simpa using na) (by simpa using nb) (show be 1 a.n++R=be 1 b.n++S from h);exact Z6m_
 ·obtain⟨na,ea⟩:=Bool.and_eq_true _ _▸(show(decide (a.n<65536)&&zw a (agN a))=true from ha);obtain⟨nb,eb⟩:=Bool.and_eq_true _ _▸(show(decide (b.n<65536)&&zw b (agN b))=true from hb);obtain⟨e,h2⟩:=kw (i:=2) (by simpa using na) (by simpa using nb) (show be 2 a.n++R=be 2 b.n++S from h);exact Z6m_
 ·obtain⟨na,ea⟩:=Bool.and_eq_true _ _▸(show(decide (a.n<4294967296)&&zw a (agN a))=true from ha);obtain⟨nb,eb⟩:=Bool.and_eq_true _ _▸(show(decide (b.n<4294967296)&&zw b (agN b))=true from hb);obtain⟨e,h2⟩:=kw (i:=4) (by simpa using na) (by simpa using nb) (show be 4 a.n++R=be 4 b.n++S from h);exact Z6m_
 ·obtain⟨na,ea⟩:=Bool.and_eq_true _ _▸(show(decide (zE a.s.length 1=0)&&zw a (agS a))=true from ha);obtain⟨nb,eb⟩:=Bool.and_eq_true _ _▸(show(decide (zE b.s.length 1=0)&&zw b (agS b))=true from hb);obtain⟨l1,t1⟩:=vM (i:=1) (Or.inl rfl) (of_decide_eq_true na);obtain⟨l2,t2⟩:=vM (i:=1) (Or.inl rfl) (of_decide_eq_true nb);have h':zP [] a.s ((1:Nat):Int)++R=zP [] b.s ((1:Nat):Int)++S:=h;exact Z5j_
 ·obtain⟨na,ea⟩:=Bool.and_eq_true _ _▸(show(decide (zE a.s.length 2=0)&&zw a (agS a))=true from ha);obtain⟨nb,eb⟩:=Bool.and_eq_true _ _▸(show(decide (zE b.s.length 2=0)&&zw b (agS b))=true from hb);obtain⟨l1,t1⟩:=vM (i:=2) (Or.inr rfl) (of_decide_eq_true na);obtain⟨l2,t2⟩:=vM (i:=2) (Or.inr rfl) (of_decide_eq_true nb);have h':zP [] a.s ((2:Nat):Int)++R=zP [] b.s ((2:Nat):Int)++S:=h;exact Z5j_
 ·obtain⟨na,ea⟩:=Bool.and_eq_true _ _▸(show(decide (((a.x.err:Nat):Int)=0)&&zw a (agX a))=true from ha);obtain⟨nb,eb⟩:=Bool.and_eq_true _ _▸(show(decide (((b.x.err:Nat):Int)=0)&&zw b (agX b))=true from hb);obtain⟨e,h2⟩:=VR ba.x bb.x (by have:=of_decide_eq_true na;omega) (by have:=of_decide_eq_true nb;omega) (show a.x.put++R=b.x.put++S from h);exact⟨by rw[(zL _ _).1 ea,(zL _ _).1 eb];unfold agX;simp[e],h2⟩
 ·obtain⟨na,ea⟩:=Bool.and_eq_true _ _▸(show(decide (((yf a.q:Nat):Int)=0)&&zw a (agQ a))=true from ha);obtain⟨nb,eb⟩:=Bool.and_eq_true _ _▸(show(decide (((yf b.q:Nat):Int)=0)&&zw b (agQ b))=true from hb);obtain⟨e,h2⟩:=VQ (by have:=of_decide_eq_true na;omega) (by have:=of_decide_eq_true nb;omega) ba.q bb.q (show yL a.q++R=yL b.q++S from h);exact⟨by rw[(zL _ _).1 ea,(zL _ _).1 eb];unfold agQ;simp[e],h2⟩
 obtain⟨na,ea⟩:=Bool.and_eq_true _ _▸(show(decide (errV a.v=0)&&zw a (agX2 a))=true from ha);obtain⟨nb,eb⟩:=Bool.and_eq_true _ _▸(show(decide (errV b.v=0)&&zw b (agX2 b))=true from hb);have na':=of_decide_eq_true na;have nb':=of_decide_eq_true nb;have h':vlP a.v++R=vlP b.v++S:=h;unfold vlP at h';rw[if_pos na',if_pos nb']at h';obtain⟨c1,m1⟩:=j0 na';obtain⟨c2,m2⟩:=j0 nb';obtain⟨e,h2⟩:=zcI a.v m1 ba.v ⟨200,Int.le_refl _,c1⟩ b.v R S m2 bb.v ⟨200,Int.le_refl _,c2⟩ h';exact⟨by rw[(zL _ _).1 ea,(zL _ _).1 eb];unfold agX2;simp[e],h2⟩
theorem XP:∀(l l':List Ag),l.length=l'.length→zF (l.map toSA)=zF (l'.map toSA)→∀i (h:i<l.length) (h':i<l'.length),l[i].is=l'[i].is
 | [],[],_,_,i,h,_=>by simp at h
 | [],_::_,hl,_,_,_,_=>by simp at hl
 | _::_,[],hl,_,_,_,_=>by simp at hl
 | a::l,b::l',hl,h,i,hi,hi'=>by
  simp only[List.map_cons,zF]at h;have e1:(toSA a).is=a.is:=rfl;have e2:(toSA b).is=b.is:=rfl;rw[e1,e2]at h
  have hh:a.is=b.is∧zF (l.map toSA)=zF (l'.map toSA):=by
   cases ha:a.is<;>cases hb:b.is<;>rw[ha,hb]at h<;>simp at h<;>first|exact⟨rfl,by omega⟩|(exfalso;omega)
  cases i with
  | zero=>exact hh.1
  | succ i=>exact XP l l' zAg hh.2 i (by simpa using hi) (by simpa using hi')
theorem zbv(kd:List UInt8)(hk:∀x∈kd,x∈jX):∀(n i:Nat) (l l':List Ag) (R S:List UInt8),l.length=kd.length→l'.length=kd.length→n+i=kd.length→(∀a∈l,AB a)→(∀a∈l',AB a)→
  (∀j (h:j<l.length) (h':j<l'.length),l[j].is=l'[j].is)→(∀j (h:j<kd.length) (h1:j<l.length) (h2:j<l'.length),okA kd[j] l[j]=true∧okA kd[j] l'[j]=true)→
  ((y0 i n).flatMap (fun j=>match kd[j]?,l[j]? with|some k,some a=>byA k a|_,_=>[]))++R=((y0 i n).flatMap (fun j=>match kd[j]?,l'[j]? with|some k,some a=>byA k a|_,_=>[]))++S→l.drop i=l'.drop i∧R=S:=by
 intro n
 induction n with
 | zero=>
  intro i l l' R S h1 h2 h3 _ _ _ _ h
  refine⟨by rw[y1 Wq,y1 Wq],by simpa using h⟩
 | succ n ih=>
  intro i l l' R S h1 h2 h3 b1 b2 BQ bJ h;rw[List.range'_succ,vz,vz,K2,K2]at h;have g0:i<kd.length:=by omega
  have g1:i<l.length:=by omega
  have g2:i<l'.length:=by omega
  rw[KS g0,KS g1,KS g2]at h;simp only at h;obtain⟨e,h⟩:=zcM (hk _ (Vx g0)) (b1 _ (Vx g1)) (b2 _ (Vx g2)) (bJ i g0 g1 g2).1 (bJ i g0 g1 g2).2 (BQ i g1 g2) h;obtain⟨e2,h4⟩:=ih (i+1) l l' R S h1 h2 Wq b1 b2 BQ bJ h;exact⟨by rw[z0 g1,z0 g2,e,e2],h4⟩
theorem zbw{a b:Mt}(ha:yI a=true)(hb:yI b=true)(ba:a.cls<256∧a.code<256∧∀x∈a.args,AB x)(bb:b.cls<256∧b.code<256∧∀x∈b.args,AB x)(h:putM a=putM b):a=b:=by
 unfold putM at h;rw[if_pos ha,if_pos hb]at h;unfold yI kH at ha hb;simp only[Bool.and_eq_true,decide_eq_true_eq,y2,y3]at ha hb;obtain⟨⟨⟨_,la⟩,sa⟩,oa⟩:=ha;obtain⟨⟨⟨_,lb⟩,sb⟩,ob⟩:=hb;obtain⟨a1,a2,a3⟩:=ba;obtain⟨b1,b2,b3⟩:=bb;unfold kF at h;simp only[K2,y4,y5,List.cons.injEq]at h;obtain⟨c1,c2,h⟩:=h
 have d1:a.cls=b.cls:=by
  have:=congrArg y6 c1;simp only[v0]at this;omega
 have d2:a.code=b.code:=by
  have:=congrArg y6 c2;simp only[v0]at this;omega
 have eg:xz a=xz b:=by unfold xz;rw[d1,d2]
 have ft:=(qp b.cls b.code).2;have sx:=(qp b.cls b.code).1
 have hf:a.sync=b.sync∧be 2 (zF (a.args.map toSA))++(K0 a.args.length).flatMap (byI a)=be 2 (zF (b.args.map toSA))++(K0 b.args.length).flatMap (byI b):=by
  rw[d1]at h sa;by_cases hc:b.cls≤2
  ·rw[if_pos hc,if_pos hc]at h;rw[decide_eq_true hc]at sa sb;simp at sa sb;exact⟨by rw[sa,sb],by simpa using h⟩
  rw[if_neg hc,if_neg hc]at h;simp only[y4,y5,List.cons.injEq,true_and]at h;refine⟨?_,h.2⟩;have:=h.1
  cases au:a.sync<;>cases Po:b.sync<;>rw[au,Po]at this<;>first|rfl|(exact absurd this WJ)
 obtain⟨d3,h⟩:=hf;have ll:a.args.length=b.args.length:=by rw[la,lb,eg]
 have f1:=xq (a.args.map toSA);have f2:=xq (b.args.map toSA);rw[z1]at f1 f2;have oq:b.args.length≤3:=by rw[lb];exact ft
 have p1:(2:Nat) ^ a.args.length≤2 ^ 3:=z2 Wq Wq;have p2:(2:Nat) ^ b.args.length≤2 ^ 3:=z2 Wq oq;obtain⟨e1,h⟩:=kw (i:=2) Wq Wq h;have BQ:=XP a.args b.args ll e1;rw[ll]at h;have mI:∀m:Mt,byI m=fun j=>match(xz m)[j]?,m.args[j]? with|some k,some a=>byA k a|_,_=>[]:=fun m=>by funext j;rfl
 rw[mI,mI,eg,List.range_eq_range']at h
 have:=zbv (xz b) sx b.args.length 0 a.args b.args [] [] (by rw[la,eg]) lb (by rw[lb];omega) a3 b3 BQ (fun j h0 h1 h2=>by
  have q1:=oa j h1;have q2:=ob j h2;unfold okI at q1 q2;rw[eg]at q1;rw[KS h0,KS h1]at q1;rw[KS h0,KS h2]at q2
  exact⟨q1,q2⟩) (by rw[z3,z3];exact h)
 have e5:a.args=b.args:=by simpa using this.1
 cases a;cases b;simp only at d1 d2 d3 e5;rw[d1,d2,d3,e5]
end Go.PH
end
section
namespace Go.PH
def mt0:Mt:=⟨0,0,false,[]⟩
def MB(m:Mt):Prop:=m.cls<256∧m.code<256∧∀x∈m.args,AB x
def GetM(b:List UInt8)(m:Mt)(er:Int):Prop:=
 (b.length<2∧er=4∧m=mt0)∨
 (2≤b.length∧yp (b.getD 0 0).toNat (b.getD 1 0).toNat=none∧er=80∧m=mt0)∨
 (2≤b.length∧(yp (b.getD 0 0).toNat (b.getD 1 0).toNat).isSome=true∧((er=0∧MB m∧yI m=true∧putM m=b)∨(er=5∧m=mt0∧∀m',yI m'=true→MB m'→putM m'≠b)))
theorem GetM.uniq{b:List UInt8}{m n:Mt}{e f:Int}(h:GetM b m e)(k:GetM b n f):m=n∧e=f:=by
 rcases h with⟨h1,h2,h3⟩|⟨h1,h2,h3,h4⟩|⟨h1,h2,h3⟩
 ·rcases k with⟨k1,k2,k3⟩|⟨k1,_⟩|⟨k1,_⟩
  ·exact⟨by rw[h3,k3],by rw[h2,k2]⟩
  ·omega
  omega
 ·rcases k with⟨k1,k2,k3⟩|⟨k1,k2,k3,k4⟩|⟨k1,k2,_⟩
  ·omega
  ·exact⟨by rw[h4,k4],by rw[h3,k3]⟩
  rw[h2]at k2;cases k2
 rcases k with⟨k1,k2,k3⟩|⟨k1,k2,k3,k4⟩|⟨k1,k2,k3⟩
 ·omega
 ·rw[k2]at h2;cases h2
 rcases h3 with⟨e1,hb,hg,hp⟩|⟨e1,e2,BN⟩
 ·rcases k3 with⟨f1,kb,kg,kp⟩|⟨f1,f2,kno⟩
  ·exact⟨zbw hg kg hb kb (by rw[hp,kp]),by rw[e1,f1]⟩
  exact absurd hp (kno m hg hb)
 rcases k3 with⟨f1,kb,kg,kp⟩|⟨f1,f2,kno⟩
 ·exact absurd kp (BN n kg kb)
 exact⟨by rw[e2,f2],by rw[e1,f1]⟩
theorem ZV{m:Mt}{b:List UInt8}(hg:yI m=true)(hb:MB m)(hp:putM m=b):
  2≤b.length∧(b.getD 0 0).toNat=m.cls∧(b.getD 1 0).toNat=m.code∧(yp m.cls m.code).isSome=true∧m.args.length=(yv (yp m.cls m.code)).length∧
  (m.cls≤2→m.sync=false∧b.drop 2=be 2 (zF (m.args.map toSA))++(K0 m.args.length).flatMap (byI m))∧
  (¬m.cls≤2→4≤b.length∧b.getD 3 0=(if m.sync then 1 else 0)∧b.drop 4=be 2 (zF (m.args.map toSA))++(K0 m.args.length).flatMap (byI m)):=by
 have hf:kH m=true:=by
  unfold yI at hg;rw[Bool.and_eq_true]at hg;exact hg.1
 unfold kH xz at hf;simp only[Bool.and_eq_true,decide_eq_true_eq]at hf;obtain⟨⟨h1,h2⟩,h3⟩:=hf;unfold putM at hp;rw[if_pos hg]at hp;unfold kF at hp;have hc:(kv m.cls).toNat=m.cls:=by rw[v0];exact y7 hb.1
 have hd:(kv m.code).toNat=m.code:=by rw[v0];exact y7 hb.2.1
 generalize(K0 m.args.length).flatMap (byI m)=Y at*;generalize be 2 (zF (m.args.map toSA))=X at*;subst hp;refine⟨by simp,by simpa using hc,by simpa using hd,h1,h2,fun h=>?_,fun h=>?_⟩
 ·refine⟨?_,by rw[if_pos h];simp⟩
  cases hs:m.sync
  ·rfl
  rw[hs]at h3;simp[h]at h3
 rw[if_neg h];exact⟨by simp,by simp,by simp⟩
theorem Yy:∀(l:List SA) (i:Nat) (hi:i<l.length),zF l / 2 ^ i % 2=if l[i].is then 1 else 0
 | [],i,hi=>by simp at hi
 | a::l,0,hi=>by
  rw[zF,Nat.pow_zero,Nat.div_one];simp only[vv]
  split<;>omega
 | a::l,i+1,hi=>by
  rw[zF,Nat.pow_succ,Nat.mul_comm (2 ^ i) 2,←Nat.div_div_eq_div_mul];have e:((if a.is=true then 1 else 0)+2*zF l) / 2=zF l:=by split<;>omega
  rw[e];simp only[List.getElem_cons_succ];exact Yy l i (by simpa using hi)
theorem VT{n i:Nat}(f:Nat→List UInt8)(hi:i<n):((K0 n).drop i).flatMap f=f i++((K0 n).drop (i+1)).flatMap f:=by
 rw[z0 (by simpa using hi),vz,List.getElem_range]
theorem zdl{m:Mt}(hg:yI m=true){i:Nat}(hi:i<m.args.length)(h':i<(yv (yp m.cls m.code)).length):okA (yv (yp m.cls m.code))[i] m.args[i]=true∧byI m i=byA (yv (yp m.cls m.code))[i] m.args[i]:=by
 unfold yI at hg;rw[Bool.and_eq_true]at hg;have h1:=y2.1 hg.2 i (y3.2 hi);unfold okI xz at h1;rw[KS h',KS hi]at h1;refine⟨h1,?_⟩;unfold byI xz;rw[KS h',KS hi]
end Go.PH
end
section
namespace Go.PH
def atM(x:Nat):Nat:=if x≤2 then 2 else 4
def kq(x:Nat)(b:List UInt8):Bool:= !decide (x≤2)&&(b[3]?==some 1)
structure Told(b:List UInt8)(m:Mt):Prop where
 good:yI m=true
 mb:MB m
 put:putM m=b
theorem J3(l:List SA)(h:l.length≤3):zF l<65536:=by
 have h1:=xq l;have h2:2 ^ l.length≤2 ^ 3:=z2 Wq h;omega
theorem vn{b:List UInt8}{m:Mt}(h:Told b m):m.args.length=(yv (yp m.cls m.code)).length∧m.args.length≤3:=by
 obtain⟨_,_,_,_,h5,_,_⟩:=ZV h.good h.mb h.put;exact⟨h5,by rw[h5];exact(qp _ _).2⟩
theorem jb{x y:UInt8}{r b:List UInt8}(hb:b=x::y::r){m:Mt}(h:Told b m):m.cls=x.toNat∧m.code=y.toNat∧m.sync=kq x.toNat b∧atM x.toNat+2≤b.length∧
  mnum (b.drop (atM x.toNat)) false 2=(zF (m.args.map toSA),(K0 m.args.length).flatMap (byI m),false):=by
 obtain⟨h1,h2,h3,h4,h5,h6,h7⟩:=ZV h.good h.mb h.put;have e1:m.cls=x.toNat:=by rw[←h2,hb];rfl
 have e2:m.code=y.toNat:=by rw[←h3,hb];rfl
 have dm:zF (m.args.map toSA)<65536:=J3 _ (by rw[z1];exact(vn h).2);have iH:∀Y,mnum (be 2 (zF (m.args.map toSA))++Y) false 2=(zF (m.args.map toSA),Y,false):=fun Y=>qZ 2 (.inr (.inl rfl)) _ Wq Y
 by_cases hc:m.cls≤2
 ·obtain⟨a1,a2⟩:=h6 hc;have fd:atM x.toNat=2:=by unfold atM;rw[if_pos Wq]
  have hl:=congrArg zB a2;simp only[k9,KL,zr]at hl;refine⟨e1,e2,?_,by rw[fd];omega,?_⟩
  ·rw[a1];unfold kq;rw[decide_eq_true Wq];rfl
  rw[fd,a2,iH]
 obtain⟨a0,a1,a2⟩:=h7 hc;have fd:atM x.toNat=4:=by unfold atM;rw[if_neg Wq]
 have hl:=congrArg zB a2;simp only[k9,KL,zr]at hl;refine⟨e1,e2,?_,by rw[fd];omega,?_⟩
 ·unfold kq;rw[decide_eq_false Wq]
  have h3:b[3]?=some (b.getD 3 0):=by
   rw[List.getD_eq_getElem?_getD,KS Wq];rfl
  rw[h3,a1]
  cases m.sync<;>rfl
 rw[fd,a2,iH]
def ReadTo(b:List UInt8)(i:Nat)(gs:List Ag)(l:List UInt8)(bad:Bool):Prop:=∀m,Told b m→gs=m.args.take i∧l=((K0 m.args.length).drop i).flatMap (byI m)∧bad=false
theorem ReadTo.start{x y:UInt8}{r b:List UInt8}(hb:b=x::y::r){l:List UInt8}{fl:Nat}{bad:Bool}(h:mnum (b.drop (atM x.toNat)) false 2=(fl,l,bad)):ReadTo b 0 [] l false:=fun m hm=>by
 obtain⟨_,_,_,_,h5⟩:=jb hb hm;rw[h]at h5;injection h5 with h5 h6
 injection h6 with h6 h7
 exact⟨by simp,by rw[h6];simp,rfl⟩
theorem ReadTo.step{x y:UInt8}{r b:List UInt8}(hb:b=x::y::r){kd:List UInt8}(hk:kd=yv (yp x.toNat y.toNat)){i:Nat}{gs:List Ag}{l l':List UInt8}{bad bad':Bool}{a:Ag}{is:Bool}(h:ReadTo b i gs l bad)(hi:i<kd.length)
  (BQ:∀m,Told b m→∀(h:i<m.args.length),m.args[i].is=is)
  (ha:∀(a':Ag) (rest:List UInt8),bad=false→l=byA kd[i] a'++rest→okA kd[i] a'=true→AB a'→a'.is=is→a=a'∧l'=rest∧bad'=false):ReadTo b (i+1) (gs++ [a]) l' bad':=fun m hm=>by
 obtain⟨h1,h2,h3⟩:=h m hm;obtain⟨e1,e2,_⟩:=jb hb hm;have hl:=(vn hm).1;have bK:yv (yp m.cls m.code)=kd:=by rw[hk,e1,e2]
 have BE:i<m.args.length:=by rw[hl,bK];exact hi
 have mg:i<(yv (yp m.cls m.code)).length:=by rw[bK];exact hi
 obtain⟨g1,g2⟩:=zdl hm.good BE mg;simp only[bK]at g1 g2;rw[VT _ (by simpa using BE),g2]at h2;obtain⟨q1,q2,q3⟩:=ha m.args[i] _ h3 h2 g1 (hm.mb.2.2 _ (Vx BE)) (BQ m hm BE);exact⟨by rw[List.take_succ_eq_append_getElem BE,h1,q1],q2,q3⟩
theorem ReadTo.all{x y:UInt8}{r b:List UInt8}(hb:b=x::y::r){kd:List UInt8}(hk:kd=yv (yp x.toNat y.toNat)){gs:List Ag}{l:List UInt8}{bad:Bool}(h:ReadTo b kd.length gs l bad){m:Mt}(hm:Told b m):m=⟨x.toNat,y.toNat,kq x.toNat b,gs⟩∧bad=false:=by
 obtain⟨h1,h2,h3⟩:=h m hm;obtain⟨e1,e2,e3,_⟩:=jb hb hm;have hl:=(vn hm).1;rw[e1,e2,←hk]at hl;rw[←hl,K1 (Q2 _)]at h1;refine⟨?_,h3⟩;obtain⟨c,d,s,g⟩:=m;simp only at e1 e2 e3 h1;rw[e1,e2,e3,h1]
theorem VS{x y:UInt8}{r b:List UInt8}(hb:b=x::y::r){l:List UInt8}{fl:Nat}{bad:Bool}(h:mnum (b.drop (atM x.toNat)) false 2=(fl,l,bad)){i:Nat}{m:Mt}(hm:Told b m)(hi:i<m.args.length):m.args[i].is=decide (fl / 2 ^ i % 2=1):=by
 obtain⟨_,_,_,_,h5⟩:=jb hb hm;rw[h]at h5;injection h5 with h5 _
 have h6:=Yy (m.args.map toSA) i (by simpa using hi);rw[←h5]at h6;rw[h6];have e:((m.args.map toSA)[i]'(by simpa using hi)).is=m.args[i].is:=by rw[List.getElem_map];rfl
 rw[e]
 cases m.args[i].is<;>simp
end Go.PH
end
namespace Go.PH
open Go.RowKit Go.Proofs Go.Proofs.Tryz
variable {bad is : Bool} {e : Ending} {l : List UInt8} {B base c cb lb n o rb vb : Nat} {F : Nat → Prop} {A : Option Addr} {W w w' wr wr' : World}
theorem RM.len{m:Mt}(h:RM w F m A c):m.args.length≤140737488351232:=by
 exact h.c
theorem yW(a b:Xd)(w:World):(binOp .neq 73 (.agg (xdV a)) (.agg (xdV b))).run prog w= .ok (.bool (!decide (a=b))) w:=by
 rw[run_neq_struct,Xp];rfl
theorem J4(v:Vl):yJ v v=true:=(jY v v).2 rfl
def ArgR(w:World)(ok:Bool)(l:List UInt8)(e:Ending)(w':World):Prop:=∃A2 n2 c2,e= .returned (.tuple #[.slice A2 n2 c2,.bool ok])∧Below w.heap.size w w'∧(ok=true→n2=l.length∧OwnB w' w.heap.size A2 n2 c2 l)
def zdo(k:Nat):Option Nat:=if k=110∨k=115 then some 1 else if k=119∨k=116 then some 2 else if k=100 then some 4 else none
theorem qd(k b:Nat)(hk:zdo k=some b)(w:World):Calls prog 94 #[.int .u8 (k:Int)] w fun e w'=>e= .returned (.int .i64 (b:Int))∧w'=w:=by
 have lM:(k=110∧b=1)∨(k=115∧b=1)∨(k=119∧b=2)∨(k=116∧b=2)∨(k=100∧b=4):=by
  unfold zdo at hk;split at hk
  ·injection hk;omega
  split at hk
  ·injection hk;omega
  split at hk
  ·injection hk;omega
  cases hk
 clear hk;rcases lM with⟨rfl,rfl⟩|⟨rfl,rfl⟩|⟨rfl,rfl⟩|⟨rfl,rfl⟩|⟨rfl,rfl⟩<;>(go_enter func94,ntmps94;go_wp2_with(with_reducible refine h_A ?_);go_ret;exact⟨rfl,rfl⟩)
theorem zdm(a:Ag)(h:AH)(w:World)(ha:RAw w a h):Calls prog 60 #[.int .u8 98,.agg (agV a h)] w (ArgR w (okA 98 a) (byA 98 a)):=by
 have qq3g:=();exact Zl_
theorem zdn(a:Ag)(h:AH)(w:World)(ha:RAw w a h):Calls prog 60 #[.int .u8 110,.agg (agV a h)] w (ArgR w (okA 110 a) (byA 110 a)):=by
 have qq1x:=();exact Z7_
theorem zbX(a:Ag)(h:AH)(w:World)(ha:RAw w a h):Calls prog 60 #[.int .u8 119,.agg (agV a h)] w (ArgR w (okA 119 a) (byA 119 a)):=by
 have qq1y:=();exact Z7_
theorem zdp(a:Ag)(h:AH)(w:World)(ha:RAw w a h):Calls prog 60 #[.int .u8 100,.agg (agV a h)] w (ArgR w (okA 100 a) (byA 100 a)):=by
 exact Z7_
theorem zbY(a:Ag)(h:AH)(w:World)(ha:RAw w a h):Calls prog 60 #[.int .u8 115,.agg (agV a h)] w (ArgR w (okA 115 a) (byA 115 a)):=by
 have qq1z:=();exact Z7_
theorem zbZ(a:Ag)(h:AH)(w:World)(ha:RAw w a h):Calls prog 60 #[.int .u8 116,.agg (agV a h)] w (ArgR w (okA 116 a) (byA 116 a)):=by
 have qq20:=();exact Z7_
theorem zdq(a:Ag)(h:AH)(w:World)(ha:RAw w a h):Calls prog 60 #[.int .u8 120,.agg (agV a h)] w (ArgR w (okA 120 a) (byA 120 a)):=by
 have qq3h:=();exact Zl_
theorem zdr(a:Ag)(h:AH)(w:World)(ha:RAw w a h):Calls prog 60 #[.int .u8 114,.agg (agV a h)] w (ArgR w (okA 114 a) (byA 114 a)):=by
 exact Zl_
theorem zds(a:Ag)(h:AH)(w:World)(ha:RAw w a h):Calls prog 60 #[.int .u8 118,.agg (agV a h)] w (ArgR w (okA 118 a) (byA 118 a)):=by
 have qq3f:=();exact Zl_
theorem zbx(kd:UInt8)(hk:kd∈jX)(a:Ag)(h:AH)(w:World)(ha:RAw w a h):Calls prog 60 #[.int .u8 (kd.toNat:Int),.agg (agV a h)] w (ArgR w (okA kd a) (byA kd a)):=by
 unfold jX at hk;simp only[q7,q8,or_false]at hk;rcases hk with rfl|rfl|rfl|rfl|rfl|rfl|rfl|rfl|rfl
 ·exact zdm a h w ha
 ·exact zdn a h w ha
 ·exact zbX a h w ha
 ·exact zdp a h w ha
 ·exact zbY a h w ha
 ·exact zbZ a h w ha
 ·exact zdq a h w ha
 ·exact zdr a h w ha
 exact zds a h w ha
theorem VU(c k:Nat):∃rw:RRow,(kG c k).getD rr0=rw∧rw.kinds=yv (yp c k)∧(kG c k).isSome=(yp c k).isSome:=by
 refine⟨_,rfl,?_,?_⟩
 ·rw[YR]
  cases yp c k<;>rfl
 rw[YR]
 cases yp c k<;>rfl
def hd0(cls code:Nat)(sync:Bool):List UInt8:=[kv cls,kv code]++(if cls≤2 then []else [1,if sync then 1 else 0])
theorem Y1(cls code:Nat)(sync:Bool)(fl:Nat)(h:fl<256):kF cls code sync fl=hd0 cls code sync++ [0,kv fl]:=by
 unfold kF hd0;congr 1;show be 2 fl=_
 have e:fl / 256=0:=by omega
 simp[be,e]
theorem XQ(m:Mt)(A:Option Addr)(c:Nat)(w:World)(hm:RMw w m A c)
  (FL:∀kd,kd∈yv (yp m.cls m.code)→∀(a:Ag) (h:AH) (W:World),RAw W a h→Calls prog 60 #[.int .u8 (kd.toNat:Int),.agg (agV a h)] W (ArgR W (okA kd a) (byA kd a))):Calls prog 43 #[.agg (mtV m A c)] w (MPut w m):=by
 unfold mtV MPut;obtain⟨xb,w1,Hg,Hi,hX,Ha⟩:=zg w #[.int .u8 (m.cls:Int),.int .u8 (m.code:Int),.bool m.sync,.slice A m.args.length c] 106;obtain⟨sx,ft⟩:=qp m.cls m.code;have eU:=XT m.cls m.code w1;unfold VY at eU;obtain⟨⟨rw_c,rw_k,rw_n,kd⟩,nO,eg,BQ⟩:=VU m.cls m.code;rw[nO,BQ]at eU;unfold rrV at eU;simp only at eg eU;obtain⟨RES,eO⟩:∃r,r=putM m:=⟨_,rfl⟩
 obtain⟨E,hE⟩:∃r,r=errM m:=⟨_,rfl⟩
 rw[←eO,←hE];have dr:=zh kd;have R7:=hm.c;have bD:=hm.cls;have D1:=hm.code;have x0:=hX.c0;have x1:=hX.c1;have x2:=hX.c2;have x3:=hX.c3;by_cases hf:kH m=true
 ·exact Z3n_
 have hg:¬yI m=true:=by unfold yI;simp[hf]
 obtain rfl:RES=[]:=by rw[eO];unfold putM;rw[if_neg hg]
 obtain rfl:E=80:=by rw[hE];unfold errM;rw[if_neg hg]
 unfold kH xz at hf;rw[←eg]at hf;generalize(yp m.cls m.code).isSome=is at*;clear FL hg eO hE sx ft eg nO BQ hm
 cases is
 ·have qqf3:=();exact Z3n_
 exact Zs_
theorem VV(m:Mt)(A:Option Addr)(c:Nat)(w:World)(hm:RMw w m A c):Calls prog 43 #[.agg (mtV m A c)] w (MPut w m):=
 XQ m A c w hm fun kd hk a h W ha=>zbx kd ((qp _ _).1 kd hk) a h W ha
theorem slAg:SlT prog 82 80 12 176 (.agg #[.bool false,.int .u64 0,.string ⟨#[]⟩,.int .u32 0,.string ⟨#[]⟩,.string ⟨#[]⟩,.slice none 0 0,.int .u8 0,.int .u64 0,.string ⟨#[]⟩,.slice none 0 0,.slice none 0 0]):=SlT.mk' underlying82 Wj rfl Wq
structure MpS(wr:World)(base:Nat)(A:Option Addr)(c:Nat)(xs:List (Ag×AH)):Prop where
 own:Own wr base 80 12 A xs.length c (rowC agC xs)
 el:∀p∈xs,RA wr (FB base A wr) p.1 p.2
theorem MpS.on{xs:List (Ag×AH)}(h:MpS wr base A c xs)(hk:∀g,base≤g→g<wr.heap.size→wr'.heap[g]?=wr.heap[g]?)(hs:wr.heap.size≤wr'.heap.size):MpS wr' base A c xs:=by
 exact Z2q_
theorem MpS.below{xs:List (Ag×AH)}(h:MpS wr base A c xs)(hB:Below wr.heap.size wr wr'):MpS wr' base A c xs:=h.on (fun g _ hg=>hB.block g hg) hB.size
theorem MpS.box{b:Nat}{xs:List (Ag×AH)}(h:MpS wr base A c xs)(hg:wr.grownBy wr' (some b))(hb:b<base):MpS wr' base A c xs:=
 h.on (fun g bM Hm=>hg.block g Hm ux) hg.size
theorem MpS.push{w5 w6:World}{A2:Option Addr}{c2:Nat}{xs:List (Ag×AH)}{x:Ag}{hx:AH}(h:MpS w5 base A c xs)(hv:RA w5 (FB base A w5) x hx)
  (ho:Own w6 base 80 12 A2 (xs.length+1) c2 (rowC agC (xs++ [(x,hx)]))) (hg:w5.grownBy w6 (blk A)) (hA:blk A2=blk A∨∀g,blk A2=some g→w5.heap.size≤g):MpS w6 base A2 c2 (xs++ [(x,hx)]):=by
 have hF:∀g,FB base A w5 g→FB base A2 w6 g:=fun g bM=>⟨bM.1,Vy bM.2.1 hg.size,by
  rcases hA with e|e
  ·rw[e];exact bM.2.2
  ·intro e2;have:=e g e2;have:=bM.2.1;omega⟩
 have hk:∀g,FB base A w5 g→w6.heap[g]?=w5.heap[g]?:=fun g bM=>hg.block g bM.2.1 (fun e=>bM.2.2 e.symm)
 refine⟨by rw[KL];exact ho,fun p hp=>?_⟩;rcases List.mem_append.1 hp with hp|hp
 ·exact((h.el p hp).keep hk hg.size).mono hF
 obtain rfl:=List.mem_singleton.1 hp;exact(hv.keep hk hg.size).mono hF
def MRd(w:World)(B rb:Nat)(l:List UInt8)(bad:Bool):Prop:=∃A n c,Box w rb 194 #[.slice A n c,.bool bad]∧RdB w B A n c l∧n≤140737488351232
theorem MRd.kp{x y:Nat}(h:MRd w B rb l bad)(hK:KP B x y w w')(h1:rb≠x)(h2:rb≠y):MRd w' B rb l bad:=by
 obtain⟨A,n,c,hb,hr,hn⟩:=h;exact⟨A,n,c,hK.box hb h1 h2,hr.below hK.1,hn⟩
theorem ZR(h:MRd w B rb l bad)(hB:B≤rb)(k e:Int)(hb:bad=true∨e≠0):
  Calls prog 160 #[.pointer (some ⟨rb,0,none⟩),.int .i64 k,.int .i64 e] w fun e' w'=>e'= .returned (.tuple #[])∧MRd w' B rb l true∧w.grownBy w' (some rb):=by
 obtain⟨A,n,c,cU,hr,hn⟩:=h;have c1:=cU.c1;have gc:=cU.lt
 cases bad
 ·exact Z2p_
 have qqca:=();exact Z2p_
theorem Jl(h:MRd w B rb l false)(hB:B≤rb)(k:Nat)(hk:k≤l.length):
  Calls prog 160 #[.pointer (some ⟨rb,0,none⟩),.int .i64 (k:Int),.int .i64 0] w fun e' w'=>e'= .returned (.tuple #[])∧MRd w' B rb (l.drop k) false∧w.grownBy w' (some rb):=by
 obtain⟨A,n,c,cU,hr,hn⟩:=h;have BD:l.length=n:=RdB.length hr;have c1:=cU.c1;have gc:=cU.lt;go_enter func160,ntmps160;go_wp2_with(with_reducible refine h_B ?_);refine zc (zm (v:=.bool false) (vs:=[.bool false]) rfl rfl rfl rfl cU rfl Wj Wz wX #[.slice A n c,.bool false] Wz ?_);intro w2 bE Hm _;have cE:RdB w2 B A n c l:=hr.grown Hm Wq Wx;have c0:=bE.c0;have c1:=bE.c1;go_wp2_with(with_reducible refine h_S ?_);refine zc (kD slB rfl rfl rfl cE k n c (.inr ⟨_,_,rfl,rfl⟩) (.inl ⟨rfl,rfl⟩) (.inl ⟨rfl,rfl⟩) mq Wq (by have:=cE.cap;omega) (Q2 _) (Q2 _) ?_);intro A2 cl _;have e3:((l.map u8v).take (n*1)).drop (k*1)=(l.drop k).map u8v:=by rw[q9,q9,K1 Hq,z4]
 rw[e3]at cl;clear e3;go_wp2_with(with_reducible refine h_B ?_);refine zc (zm (v:=.slice A2 (n-k) (c-k)) (vs:=[.slice A2 (n-k) (c-k)]) rfl rfl rfl rfl bE rfl Wj Wz wX #[.slice A2 (n-k) (c-k),.bool false] Wz ?_);intro w3 bX H7 _;go_wp2_with(with_reducible refine h_A ?_);go_end0;have RI:w.grownBy w3 (some rb):=Hm.trans H7;refine⟨rfl,⟨A2,n-k,c-k,bX,?_,by omega⟩,RI⟩;have cV:RdB w2 B A2 (n-k) (c-k) (l.drop k):=cl;exact cV.grown H7 (by have:=bE.lt;omega) Wx
theorem KP.wide{ab:Nat}{W':World}(h:KP B rb ab w W)(k:KP B ab vb W W')(hv:w.heap.size≤vb):KP B rb ab w W':=
 ⟨h.1.trans k.1,fun g hg h1 h2=>(k.2 g (Vy hg h.size) h2 Wq).trans (h.2 g hg h1 h2)⟩
def OctR(w:World)(B rb ab:Nat)(l:List UInt8)(bad:Bool)(cells:Array Value)(e:Ending)(w':World):Prop:=e= .returned (.tuple #[])∧Box w' ab 80 cells∧MRd w' B rb l bad∧KP B rb ab w w'
theorem jt(Fn:FuncId)(cap:Array Value)(TI:∀(args:Array Value) (w:World),(callFunc Fn args).run prog w= .ok (.enter Fn args) w){ab:Nat}(h:MRd w B rb l bad)(hB:B≤rb)(cells cells':Array Value)(ha:Box w ab 80 cells)(Br:B≤ab)(hne:ab≠rb)(l2:List UInt8)(b2:Bool)(cR:l2.length≤l.length)
  (bD:∀(W:World) (o vb:Nat) (F:Nat→Prop),Below w.heap.size w W→Rdr F W (.pointer (some ⟨o,0,none⟩)) (some vb) l false→(∀g,F g→w.heap.size≤g∧g<W.heap.size)→Box W ab 80 cells→
   Calls prog Fn (#[.pointer (some ⟨o,0,none⟩)]++cap) W fun e W'=>e= .returned (.tuple #[])∧Rdr F W' (.pointer (some ⟨o,0,none⟩)) (some vb) l2 b2∧Box W' ab 80 cells'∧KP B ab vb W W'):
  Calls prog 152 #[.pointer (some ⟨rb,0,none⟩),.func (.func Fn) #[] cap] w (OctR w B rb ab (if(bad||b2)=true then l else l.drop (l.length-l2.length)) (bad||b2) cells'):=by
 obtain⟨lr,fA⟩:∃x,x=(if(bad||b2)=true then l else l.drop (l.length-l2.length)):=⟨_,rfl⟩
 obtain⟨br,bV⟩:∃x,x=(bad||b2):=⟨_,rfl⟩
 rw[←fA,←bV];have oI:=Q1 fA;have oh:=Q1 bV;clear fA bV;obtain⟨A,n,c,cU,hr,hn⟩:=h;have BD:l.length=n:=RdB.length hr;have gc:=cU.lt;have CS:=ha.lt;have bI:B≤w.heap.size:=by omega
 have Dl:=qE A n c l w (yU hr bI) Wq;have c0:=cU.c0;have G4:=Q1 bD;clear bD;go_enter func152,ntmps152;go_wp2_with(with_reducible refine h_A ?_);refine Dl.mono ?_;rintro e w2 ⟨o,vb,rfl,ho,hv,B4,Hc⟩;have db:=ha.below Hc;have bE:=cU.below Hc;have cE:=hr.below (Hc.mono bI);have dQ:=(KP.refl B rb ab w).below bI Hc;have I3:=B4.inF rfl;have dN:=G4.out w2 o vb _ Hc B4 (fun g hg=>hg) db;clear Dl c0 G4 ha cU hr;go_wp2_with(with_reducible refine h_A ?_);refine dN.mono ?_;rintro e w3 ⟨rfl,pG,mp,BO⟩;have bX:=BO.box bE (Ne.symm hne) Wq;have cl:=cE.below BO.1;have hK:=dQ.wide BO hv;clear dN bE cE db BO dQ;have c1:=bX.c1;have dI:=bX.lt;go_upto_region 2 with fail
 cases bad
 ·have iq:=yD pG
  cases b2
  ·have qq5h:=();exact Zv_
  exact Zv_
 have qq5g:=();exact Zv_
theorem zcD{ab:Nat}(is:Bool)(T:_)(hT:T=mnum l false 1)(hr:Rdr F W (.pointer (some ⟨o,0,none⟩)) (some vb) l false)(Bs:Box W cb 198 #[.pointer (some ⟨ab,0,none⟩)])(ha:Box W ab 80 #[.bool is,.int .u64 0,.string ⟨#[]⟩,.int .u32 0,.string ⟨#[]⟩,.string ⟨#[]⟩,.slice none 0 0,.int .u8 0,.int .u64 0,.string ⟨#[]⟩,.slice none 0 0,.slice none 0 0])(iO:¬F ab)(Nw:vb≠cb)(Dg:vb≠ab)(Og:cb≠ab)(hBa:B≤ab)(pq:B≤vb)(eu:B≤W.heap.size):
  Calls prog 153 #[.pointer (some ⟨o,0,none⟩),.pointer (some ⟨cb,0,none⟩)] W fun e W'=>e= .returned (.tuple #[])∧Rdr F W' (.pointer (some ⟨o,0,none⟩)) (some vb) T.2.1 T.2.2∧Box W' ab 80 #[.bool is,.int .u64 (T.1:Int),.string ⟨#[]⟩,.int .u32 0,.string ⟨#[]⟩,.string ⟨#[]⟩,.slice none 0 0,.int .u8 0,.int .u64 0,.string ⟨#[]⟩,.slice none 0 0,.slice none 0 0]∧KP B ab vb W W':=by
 have qq6o:=();exact Z13_
theorem zcE{ab:Nat}(is:Bool)(T:_)(hT:T=mnum l false 2)(hr:Rdr F W (.pointer (some ⟨o,0,none⟩)) (some vb) l false)(Bs:Box W cb 198 #[.pointer (some ⟨ab,0,none⟩)])(ha:Box W ab 80 #[.bool is,.int .u64 0,.string ⟨#[]⟩,.int .u32 0,.string ⟨#[]⟩,.string ⟨#[]⟩,.slice none 0 0,.int .u8 0,.int .u64 0,.string ⟨#[]⟩,.slice none 0 0,.slice none 0 0])(iO:¬F ab)(Nw:vb≠cb)(Dg:vb≠ab)(Og:cb≠ab)(hBa:B≤ab)(pq:B≤vb)(eu:B≤W.heap.size):
  Calls prog 154 #[.pointer (some ⟨o,0,none⟩),.pointer (some ⟨cb,0,none⟩)] W fun e W'=>e= .returned (.tuple #[])∧Rdr F W' (.pointer (some ⟨o,0,none⟩)) (some vb) T.2.1 T.2.2∧Box W' ab 80 #[.bool is,.int .u64 (T.1:Int),.string ⟨#[]⟩,.int .u32 0,.string ⟨#[]⟩,.string ⟨#[]⟩,.slice none 0 0,.int .u8 0,.int .u64 0,.string ⟨#[]⟩,.slice none 0 0,.slice none 0 0]∧KP B ab vb W W':=by
 have qq6p:=();exact Z13_
theorem zcF{ab:Nat}(is:Bool)(T:_)(hT:T=mnum l false 4)(hr:Rdr F W (.pointer (some ⟨o,0,none⟩)) (some vb) l false)(Bs:Box W cb 198 #[.pointer (some ⟨ab,0,none⟩)])(ha:Box W ab 80 #[.bool is,.int .u64 0,.string ⟨#[]⟩,.int .u32 0,.string ⟨#[]⟩,.string ⟨#[]⟩,.slice none 0 0,.int .u8 0,.int .u64 0,.string ⟨#[]⟩,.slice none 0 0,.slice none 0 0])(iO:¬F ab)(Nw:vb≠cb)(Dg:vb≠ab)(Og:cb≠ab)(hBa:B≤ab)(pq:B≤vb)(eu:B≤W.heap.size):
  Calls prog 155 #[.pointer (some ⟨o,0,none⟩),.pointer (some ⟨cb,0,none⟩)] W fun e W'=>e= .returned (.tuple #[])∧Rdr F W' (.pointer (some ⟨o,0,none⟩)) (some vb) T.2.1 T.2.2∧Box W' ab 80 #[.bool is,.int .u64 (T.1:Int),.string ⟨#[]⟩,.int .u32 0,.string ⟨#[]⟩,.string ⟨#[]⟩,.slice none 0 0,.int .u8 0,.int .u64 0,.string ⟨#[]⟩,.slice none 0 0,.slice none 0 0]∧KP B ab vb W W':=by
 have qq6q:=();exact Z13_
theorem zbp{ab:Nat}(is:Bool)(T:_)(hT:T=zT l false 1 255)(hr:Rdr F W (.pointer (some ⟨o,0,none⟩)) (some vb) l false)(Bs:Box W cb 198 #[.pointer (some ⟨ab,0,none⟩)])(ha:Box W ab 80 #[.bool is,.int .u64 0,.string ⟨#[]⟩,.int .u32 0,.string ⟨#[]⟩,.string ⟨#[]⟩,.slice none 0 0,.int .u8 0,.int .u64 0,.string ⟨#[]⟩,.slice none 0 0,.slice none 0 0])(iO:¬F ab)(Nw:vb≠cb)(Dg:vb≠ab)(Og:cb≠ab)(hBa:B≤ab)(pq:B≤vb)(eu:B≤W.heap.size):
  Calls prog 156 #[.pointer (some ⟨o,0,none⟩),.pointer (some ⟨cb,0,none⟩)] W fun e W'=>e= .returned (.tuple #[])∧Rdr F W' (.pointer (some ⟨o,0,none⟩)) (some vb) T.2.1 T.2.2∧Box W' ab 80 #[.bool is,.int .u64 0,.string (str T.1),.int .u32 0,.string ⟨#[]⟩,.string ⟨#[]⟩,.slice none 0 0,.int .u8 0,.int .u64 0,.string ⟨#[]⟩,.slice none 0 0,.slice none 0 0]∧KP B ab vb W W':=by
 have qq6n:=();exact Z13_
theorem zcG{ab:Nat}(is:Bool)(T:_)(hT:T=zT l false 2 65535)(hr:Rdr F W (.pointer (some ⟨o,0,none⟩)) (some vb) l false)(Bs:Box W cb 198 #[.pointer (some ⟨ab,0,none⟩)])(ha:Box W ab 80 #[.bool is,.int .u64 0,.string ⟨#[]⟩,.int .u32 0,.string ⟨#[]⟩,.string ⟨#[]⟩,.slice none 0 0,.int .u8 0,.int .u64 0,.string ⟨#[]⟩,.slice none 0 0,.slice none 0 0])(iO:¬F ab)(Nw:vb≠cb)(Dg:vb≠ab)(Og:cb≠ab)(hBa:B≤ab)(pq:B≤vb)(eu:B≤W.heap.size):
  Calls prog 158 #[.pointer (some ⟨o,0,none⟩),.pointer (some ⟨cb,0,none⟩)] W fun e W'=>e= .returned (.tuple #[])∧Rdr F W' (.pointer (some ⟨o,0,none⟩)) (some vb) T.2.1 T.2.2∧Box W' ab 80 #[.bool is,.int .u64 0,.string (str T.1),.int .u32 0,.string ⟨#[]⟩,.string ⟨#[]⟩,.slice none 0 0,.int .u8 0,.int .u64 0,.string ⟨#[]⟩,.slice none 0 0,.slice none 0 0]∧KP B ab vb W W':=by
 exact Z13_
theorem OctR.from{w1:World}{ab:Nat}{cells:Array Value}(h:OctR w1 B rb ab l bad cells e w')(hK:KP B rb ab w w1):OctR w B rb ab l bad cells e w':=⟨h.1,h.2.1,h.2.2.1,hK.trans h.2.2.2⟩
theorem zbl{ab:Nat}(is:Bool)(h:MRd w B rb l bad)(hB:B≤rb)(ha:Box w ab 80 #[.bool is,.int .u64 0,.string ⟨#[]⟩,.int .u32 0,.string ⟨#[]⟩,.string ⟨#[]⟩,.slice none 0 0,.int .u8 0,.int .u64 0,.string ⟨#[]⟩,.slice none 0 0,.slice none 0 0])(Br:B≤ab)(hne:ab≠rb)(T:_)(hT:T=mnum l false 1)(AU:T.2.1.length≤l.length):
  Calls prog 128 #[.pointer (some ⟨rb,0,none⟩),.pointer (some ⟨ab,0,none⟩)] w (OctR w B rb ab (if(bad||T.2.2)=true then l else l.drop (l.length-T.2.1.length)) (bad||T.2.2) #[.bool is,.int .u64 (T.1:Int),.string ⟨#[]⟩,.int .u32 0,.string ⟨#[]⟩,.string ⟨#[]⟩,.slice none 0 0,.int .u8 0,.int .u64 0,.string ⟨#[]⟩,.slice none 0 0,.slice none 0 0]):=by
 exact Z1n_
theorem zbm{ab:Nat}(is:Bool)(h:MRd w B rb l bad)(hB:B≤rb)(ha:Box w ab 80 #[.bool is,.int .u64 0,.string ⟨#[]⟩,.int .u32 0,.string ⟨#[]⟩,.string ⟨#[]⟩,.slice none 0 0,.int .u8 0,.int .u64 0,.string ⟨#[]⟩,.slice none 0 0,.slice none 0 0])(Br:B≤ab)(hne:ab≠rb)(T:_)(hT:T=mnum l false 2)(AU:T.2.1.length≤l.length):
  Calls prog 129 #[.pointer (some ⟨rb,0,none⟩),.pointer (some ⟨ab,0,none⟩)] w (OctR w B rb ab (if(bad||T.2.2)=true then l else l.drop (l.length-T.2.1.length)) (bad||T.2.2) #[.bool is,.int .u64 (T.1:Int),.string ⟨#[]⟩,.int .u32 0,.string ⟨#[]⟩,.string ⟨#[]⟩,.slice none 0 0,.int .u8 0,.int .u64 0,.string ⟨#[]⟩,.slice none 0 0,.slice none 0 0]):=by
 have qq8q:=();exact Z1n_
theorem zbn{ab:Nat}(is:Bool)(h:MRd w B rb l bad)(hB:B≤rb)(ha:Box w ab 80 #[.bool is,.int .u64 0,.string ⟨#[]⟩,.int .u32 0,.string ⟨#[]⟩,.string ⟨#[]⟩,.slice none 0 0,.int .u8 0,.int .u64 0,.string ⟨#[]⟩,.slice none 0 0,.slice none 0 0])(Br:B≤ab)(hne:ab≠rb)(T:_)(hT:T=mnum l false 4)(AU:T.2.1.length≤l.length):
  Calls prog 130 #[.pointer (some ⟨rb,0,none⟩),.pointer (some ⟨ab,0,none⟩)] w (OctR w B rb ab (if(bad||T.2.2)=true then l else l.drop (l.length-T.2.1.length)) (bad||T.2.2) #[.bool is,.int .u64 (T.1:Int),.string ⟨#[]⟩,.int .u32 0,.string ⟨#[]⟩,.string ⟨#[]⟩,.slice none 0 0,.int .u8 0,.int .u64 0,.string ⟨#[]⟩,.slice none 0 0,.slice none 0 0]):=by
 have qq8r:=();exact Z1n_
theorem VF{ab:Nat}(is:Bool)(h:MRd w B rb l bad)(hB:B≤rb)(ha:Box w ab 80 #[.bool is,.int .u64 0,.string ⟨#[]⟩,.int .u32 0,.string ⟨#[]⟩,.string ⟨#[]⟩,.slice none 0 0,.int .u8 0,.int .u64 0,.string ⟨#[]⟩,.slice none 0 0,.slice none 0 0])(Br:B≤ab)(hne:ab≠rb)(T:_)(hT:T=zT l false 1 255)(AU:T.2.1.length≤l.length):
  Calls prog 131 #[.pointer (some ⟨rb,0,none⟩),.pointer (some ⟨ab,0,none⟩)] w (OctR w B rb ab (if(bad||T.2.2)=true then l else l.drop (l.length-T.2.1.length)) (bad||T.2.2) #[.bool is,.int .u64 0,.string (str T.1),.int .u32 0,.string ⟨#[]⟩,.string ⟨#[]⟩,.slice none 0 0,.int .u8 0,.int .u64 0,.string ⟨#[]⟩,.slice none 0 0,.slice none 0 0]):=by
 have qq8s:=();exact Z1n_
theorem zbo{ab:Nat}(is:Bool)(h:MRd w B rb l bad)(hB:B≤rb)(ha:Box w ab 80 #[.bool is,.int .u64 0,.string ⟨#[]⟩,.int .u32 0,.string ⟨#[]⟩,.string ⟨#[]⟩,.slice none 0 0,.int .u8 0,.int .u64 0,.string ⟨#[]⟩,.slice none 0 0,.slice none 0 0])(Br:B≤ab)(hne:ab≠rb)(T:_)(hT:T=zT l false 2 65535)(AU:T.2.1.length≤l.length):
  Calls prog 132 #[.pointer (some ⟨rb,0,none⟩),.pointer (some ⟨ab,0,none⟩)] w (OctR w B rb ab (if(bad||T.2.2)=true then l else l.drop (l.length-T.2.1.length)) (bad||T.2.2) #[.bool is,.int .u64 0,.string (str T.1),.int .u32 0,.string ⟨#[]⟩,.string ⟨#[]⟩,.slice none 0 0,.int .u8 0,.int .u64 0,.string ⟨#[]⟩,.slice none 0 0,.slice none 0 0]):=by
 have qq8t:=();exact Z1n_
theorem zcC{ab:Nat}{cells:Array Value}(h:MRd w B rb l bad)(ha:Box w ab 80 cells):
  Calls prog 127 #[.pointer (some ⟨rb,0,none⟩),.pointer (some ⟨ab,0,none⟩)] w (OctR w B rb ab l bad cells):=by
 go_enter func127,ntmps127;go_wp2_with(with_reducible refine h_A ?_);go_end0;exact⟨rfl,ha,h,KP.refl _ _ _ _⟩
theorem Jk(l:List UInt8):(getR l).2.1≤l.length:=by
 unfold getR;split
 ·exact q6 _
 split
 ·exact Nat.sub_le _ _
 exact q6 _
theorem zbi(l:List UInt8):(vget l).2.1≤l.length:=by
 unfold vget;split
 ·split
  ·exact Nat.sub_le _ _
  exact q6 _
 exact q6 _
theorem zbj(l:List UInt8):(vget l).2.2=0∨(vget l).2.2=5:=by
 unfold vget;split
 ·split
  ·exact .inl rfl
  exact .inr rfl
 exact .inr rfl
theorem VE{ab:Nat}(is:Bool)(h:MRd w B rb l bad)(hB:B≤rb)(ha:Box w ab 80 #[.bool is,.int .u64 0,.string ⟨#[]⟩,.int .u32 0,.string ⟨#[]⟩,.string ⟨#[]⟩,.slice none 0 0,.int .u8 0,.int .u64 0,.string ⟨#[]⟩,.slice none 0 0,.slice none 0 0])(Br:B≤ab)(hne:ab≠rb)(hT:UTabs w)(x:Vl)(n:Nat)(er:Int)(hg:vget l=(x,n,er)):
  Calls prog 135 #[.pointer (some ⟨rb,0,none⟩),.pointer (some ⟨ab,0,none⟩)] w fun e w'=>∃h1:VH,OctR w B rb ab (if(bad||decide (er≠0))=true then l else l.drop n) (bad||decide (er≠0)) #[.bool is,.int .u64 0,.string ⟨#[]⟩,.int .u32 0,.string ⟨#[]⟩,.string ⟨#[]⟩,.slice none 0 0,.int .u8 (x.kind:Int),.int .u64 (x.n:Int),.string (str x.s),.slice h1.A1 x.keys.length h1.c1,.slice h1.A2 x.list.length h1.c2] e w'∧RV w' (FN w.heap.size w') x h1:=by
 exact Zm_
theorem zbk{ab:Nat}(is:Bool)(h:MRd w B rb l bad)(hB:B≤rb)(ha:Box w ab 80 #[.bool is,.int .u64 0,.string ⟨#[]⟩,.int .u32 0,.string ⟨#[]⟩,.string ⟨#[]⟩,.slice none 0 0,.int .u8 0,.int .u64 0,.string ⟨#[]⟩,.slice none 0 0,.slice none 0 0])(Br:B≤ab)(hne:ab≠rb)(x:Xd)(n er:Nat)(hg:getR l=(x,n,er)):
  Calls prog 133 #[.pointer (some ⟨rb,0,none⟩),.pointer (some ⟨ab,0,none⟩)] w fun e w'=>OctR w B rb ab (if(bad||decide (er≠0))=true then l else l.drop n) (bad||decide (er≠0)) #[.bool is,.int .u64 0,.string ⟨#[]⟩,.int .u32 (x.fmt:Int),.string (str x.glob),.string (str x.bran),.slice none 0 0,.int .u8 0,.int .u64 0,.string ⟨#[]⟩,.slice none 0 0,.slice none 0 0] e w':=by
 have qq3i:=();exact Zm_
theorem Yt(b:List UInt8):qw b≤b.length:=by
 unfold qw;split
 ·rename_i h
  unfold zO at h;split at h
  ·omega
  split at h
  ·omega
  split at h
  ·omega
  omega
 exact q6 _
theorem zcB{ab:Nat}(is:Bool)(h:MRd w B rb l bad)(hB:B≤rb)(ha:Box w ab 80 #[.bool is,.int .u64 0,.string ⟨#[]⟩,.int .u32 0,.string ⟨#[]⟩,.string ⟨#[]⟩,.slice none 0 0,.int .u8 0,.int .u64 0,.string ⟨#[]⟩,.slice none 0 0,.slice none 0 0])(Br:B≤ab)(hne:ab≠rb):
  Calls prog 134 #[.pointer (some ⟨rb,0,none⟩),.pointer (some ⟨ab,0,none⟩)] w fun e w'=>∃A2 c2,OctR w B rb ab (if(bad||decide (zO l≠0))=true then l else l.drop (qw l)) (bad||decide (zO l≠0)) #[.bool is,.int .u64 0,.string ⟨#[]⟩,.int .u32 0,.string ⟨#[]⟩,.string ⟨#[]⟩,.slice A2 (xM l).length c2,.int .u8 0,.int .u64 0,.string ⟨#[]⟩,.slice none 0 0,.slice none 0 0] e w'∧OwnS w' w.heap.size A2 (xM l).length c2 (xM l):=by
 have qq3j:=();exact Zm_
def XJ(w:World)(B rb ab:Nat)(kd:UInt8)(is:Bool)(l:List UInt8)(bad:Bool)(e:Ending)(w':World):Prop:=∃(a:Ag) (h:AH) (l':List UInt8) (bad':Bool),e= .returned (.tuple #[])∧Box w' ab 80 (agV a h)∧RA w' (FN w.heap.size w') a h∧MRd w' B rb l' bad'∧KP B rb ab w w'∧a.is=is∧
 ∀(a':Ag) (rest:List UInt8),bad=false→l=byA kd a'++rest→okA kd a'=true→AB a'→a'.is=is→a=a'∧l'=rest∧bad'=false
theorem Vw(X rest:List UInt8):(X++rest).drop ((X++rest).length-rest.length)=rest:=by
 rw[KL,Nat.add_sub_cancel,y8]
theorem QB{ab:Nat}(kd:UInt8)(k:Nat)(hk:k=1∨k=2∨k=4)(dX:∀a,byA kd a=be k a.n)(bJ:∀a,okA kd a=true→a.n<256 ^ k∧zw a (agN a)=true)
  (h:OctR w B rb ab (if(bad||(mnum l false (k:Int)).2.2)=true then l else l.drop (l.length-(mnum l false (k:Int)).2.1.length)) (bad||(mnum l false (k:Int)).2.2) #[.bool is,.int .u64 ((mnum l false (k:Int)).1:Int),.string ⟨#[]⟩,.int .u32 0,.string ⟨#[]⟩,.string ⟨#[]⟩,.slice none 0 0,.int .u8 0,.int .u64 0,.string ⟨#[]⟩,.slice none 0 0,.slice none 0 0] e w'):XJ w B rb ab kd is l bad e w':=by
 obtain⟨rfl,hb,hm,hK⟩:=h;refine⟨⟨is,(mnum l false (k:Int)).1,[],xd0,[],vl0⟩,ah0,_,_,rfl,hb,?_,hm,hK,rfl,?_⟩
 ·have hz:=RA.zero w' (FN w.heap.size w') is;exact⟨xg l false k,hz.s,hz.x,hz.q,hz.ok,hz.c,hz.v⟩
 intro a' rest ei hl lH _ BQ;obtain⟨h1,h2⟩:=bJ a' lH;rw[dX]at hl;have e1:=qZ k Wq a'.n h1 rest;subst hl ei;rw[e1];have e2:a'=agN a':=(zL _ _).1 h2;have e3:a'.is=true:=by rw[e2];rfl
 refine⟨?_,by simp,rfl⟩;rw[e2];simp only[agN];rw[←BQ,e3]
theorem Vz{ab:Nat}(kd:UInt8)(k:Nat)(hk:k=1∨k=2)(most:Nat)(PV:256 ^ k≤most+1)(nl:most≤65535)(dX:∀a,byA kd a=zP [] a.s (k:Int))(bJ:∀a,okA kd a=true→zE a.s.length (k:Int)=0∧zw a (agS a)=true)
  (h:OctR w B rb ab (if(bad||(zT l false (k:Int) (most:Int)).2.2)=true then l else l.drop (l.length-(zT l false (k:Int) (most:Int)).2.1.length)) (bad||(zT l false (k:Int) (most:Int)).2.2) #[.bool is,.int .u64 0,.string (str (zT l false (k:Int) (most:Int)).1),.int .u32 0,.string ⟨#[]⟩,.string ⟨#[]⟩,.slice none 0 0,.int .u8 0,.int .u64 0,.string ⟨#[]⟩,.slice none 0 0,.slice none 0 0] e w'):XJ w B rb ab kd is l bad e w':=by
 obtain⟨rfl,hb,hm,hK⟩:=h;refine⟨⟨is,0,(zT l false (k:Int) (most:Int)).1,xd0,[],vl0⟩,ah0,_,_,rfl,hb,?_,hm,hK,rfl,?_⟩
 ·have hz:=RA.zero w' (FN w.heap.size w') is;exact⟨hz.n,by have:=yY l false k most;show(zT l false (k:Int) (most:Int)).1.length≤_;omega,hz.x,hz.q,hz.ok,hz.c,hz.v⟩
 intro a' rest ei hl lH _ BQ;obtain⟨h1,h2⟩:=bJ a' lH;obtain⟨h3,h4⟩:=vM hk h1;rw[dX,h4]at hl;have e1:=ju k Wq a'.s rest most h3 Wq;subst hl ei;rw[e1];have e2:a'=agS a':=(zL _ _).1 h2;have e3:a'.is=true:=by rw[e2];rfl
 refine⟨?_,(by rw[if_neg Wz];exact Vw _ _),rfl⟩;rw[e2];simp only[agS];rw[←BQ,e3]
theorem zcA{ab:Nat}(h:OctR w B rb ab l bad #[.bool is,.int .u64 0,.string ⟨#[]⟩,.int .u32 0,.string ⟨#[]⟩,.string ⟨#[]⟩,.slice none 0 0,.int .u8 0,.int .u64 0,.string ⟨#[]⟩,.slice none 0 0,.slice none 0 0] e w'):XJ w B rb ab 98 is l bad e w':=by
 obtain⟨rfl,hb,hm,hK⟩:=h;refine⟨ag0 is,ah0,_,_,rfl,hb,RA.zero _ _ _,hm,hK,rfl,?_⟩;intro a' rest ei hl lH _ BQ;have h2:zw a' (ag0 a'.is)=true:=lH;have e2:a'=ag0 a'.is:=(zL _ _).1 h2;refine⟨by rw[e2,←BQ],?_,ei⟩;rw[hl];rfl
theorem VA{ab:Nat}(x:Vl)(n:Nat)(er:Int)(hg:vget l=(x,n,er))(h1:VH)
  (h:OctR w B rb ab (if(bad||decide (er≠0))=true then l else l.drop n) (bad||decide (er≠0)) #[.bool is,.int .u64 0,.string ⟨#[]⟩,.int .u32 0,.string ⟨#[]⟩,.string ⟨#[]⟩,.slice none 0 0,.int .u8 (x.kind:Int),.int .u64 (x.n:Int),.string (str x.s),.slice h1.A1 x.keys.length h1.c1,.slice h1.A2 x.list.length h1.c2] e w') (hv:RV w' (FN w.heap.size w') x h1):XJ w B rb ab 118 is l bad e w':=by
 obtain⟨rfl,hb,hm,hK⟩:=h;refine⟨⟨is,0,[],xd0,[],x⟩,⟨none,0,h1⟩,_,_,rfl,hb,?_,hm,hK,rfl,?_⟩
 ·have hz:=RA.zero w' (FN w.heap.size w') is;exact⟨hz.n,hz.s,hz.x,hz.q,hz.ok,hz.c,hv⟩
 have qqbk:=();exact Z2g_
theorem VD(l:List UInt8):(getR l).1.wf:=by
 have h0:xd00.wf:=⟨by decide,by decide,by decide⟩;unfold getR;split
 ·exact h0
 split
 ·refine⟨Nat.mod_lt _ WJ,?_,?_⟩
  ·have:=yY (mnum l false 4).2.1 (mnum l false 4).2.2 1 255;exact k8 this WJ
  have:=yY (getT (mnum l false 4).2.1 (mnum l false 4).2.2).2.1 (getT (mnum l false 4).2.1 (mnum l false 4).2.2).2.2 1 255;exact k8 this WJ
 exact h0
theorem zbh{ab:Nat}(x:Xd)(n er:Nat)(hg:getR l=(x,n,er))
  (h:OctR w B rb ab (if(bad||decide (er≠0))=true then l else l.drop n) (bad||decide (er≠0)) #[.bool is,.int .u64 0,.string ⟨#[]⟩,.int .u32 (x.fmt:Int),.string (str x.glob),.string (str x.bran),.slice none 0 0,.int .u8 0,.int .u64 0,.string ⟨#[]⟩,.slice none 0 0,.slice none 0 0] e w'):XJ w B rb ab 120 is l bad e w':=by
 obtain⟨rfl,hb,hm,hK⟩:=h;have gh:=VD l;rw[hg]at gh;refine⟨⟨is,0,[],x,[],vl0⟩,ah0,_,_,rfl,hb,?_,hm,hK,rfl,?_⟩
 ·have hz:=RA.zero w' (FN w.heap.size w') is;exact⟨hz.n,hz.s,gh,hz.q,hz.ok,hz.c,hz.v⟩
 exact Z2g_
theorem XI(b:List UInt8):spOK 4294967296 (xM b):=by
 unfold xM;split
 ·exact kL _ _
 intro z hz;cases hz
theorem zcz{ab:Nat}(A2:Option Addr)(c2:Nat)
  (h:OctR w B rb ab (if(bad||decide (zO l≠0))=true then l else l.drop (qw l)) (bad||decide (zO l≠0)) #[.bool is,.int .u64 0,.string ⟨#[]⟩,.int .u32 0,.string ⟨#[]⟩,.string ⟨#[]⟩,.slice A2 (xM l).length c2,.int .u8 0,.int .u64 0,.string ⟨#[]⟩,.slice none 0 0,.slice none 0 0] e w') (ho:OwnS w' w.heap.size A2 (xM l).length c2 (xM l)) (bQ:(xM l).length≤140737488351232):XJ w B rb ab 114 is l bad e w':=by
 obtain⟨rfl,hb,hm,hK⟩:=h;refine⟨⟨is,0,[],xd0,xM l,vl0⟩,⟨A2,c2,⟨none,0,none,0⟩⟩,_,_,rfl,hb,?_,hm,hK,rfl,?_⟩
 ·have hz:=RA.zero w' (FN w.heap.size w') is;refine⟨hz.n,hz.s,hz.x,RdX.of_own ho (fun g hg=>?_),XI l,bQ,hz.v⟩;have:=ho.blk_lt hg;exact⟨this.1,this.2⟩
 intro a' rest ei hl lH Br BQ;have h2:(decide (((yf a'.q:Nat):Int)=0)&&zw a' (agQ a'))=true:=lH;rw[Bool.and_eq_true,decide_eq_true_eq]at h2;obtain⟨h3,h4⟩:=h2;have e2:a'=agQ a':=(zL _ _).1 h4;have e3:a'.is=true:=by rw[e2];rfl
 have lf:l=yL a'.q++rest:=hl
 have im:zW a'.q=true∧a'.q.length≤1000:=by
  exact Z66_
 obtain⟨g1,g2,g3⟩:=QE rest im.1 im.2 Br.q;rw[←lf]at g1 g2 g3;subst ei;rw[g1,g2,g3];refine⟨?_,?_,rfl⟩
 ·rw[e2];simp only[agQ];rw[←BQ,e3]
 rw[if_neg Wz,lf,y8]
def rdFn(kd:UInt8):FuncId:=
 if kd=98 then 127 else if kd=110 then 128 else if kd=119 then 129 else if kd=100 then 130
 else if kd=115 then 131 else if kd=116 then 132 else if kd=120 then 133 else if kd=114 then 134 else 135
theorem Ys{a:Ag}{k:Nat}(h:(decide (a.n<k)&&zw a (agN a))=true):a.n<k∧zw a (agN a)=true:=by
 rw[Bool.and_eq_true,decide_eq_true_eq]at h;exact h
theorem Jj{a:Ag}{k:Int}(h:(decide (zE a.s.length k=0)&&zw a (agS a))=true):zE a.s.length k=0∧zw a (agS a)=true:=by
 rw[Bool.and_eq_true,decide_eq_true_eq]at h;exact h
theorem zcy(kd:UInt8)(hk:kd∈jX){ab:Nat}(is:Bool)(h:MRd w B rb l bad)(hB:B≤rb)(ha:Box w ab 80 #[.bool is,.int .u64 0,.string ⟨#[]⟩,.int .u32 0,.string ⟨#[]⟩,.string ⟨#[]⟩,.slice none 0 0,.int .u8 0,.int .u64 0,.string ⟨#[]⟩,.slice none 0 0,.slice none 0 0])(Br:B≤ab)(hne:ab≠rb)(hT:UTabs w):
  Calls prog (rdFn kd) #[.pointer (some ⟨rb,0,none⟩),.pointer (some ⟨ab,0,none⟩)] w (XJ w B rb ab kd is l bad):=by
 unfold jX at hk;simp only[q7,q8,or_false]at hk;rcases hk with rfl|rfl|rfl|rfl|rfl|rfl|rfl|rfl|rfl
 ·exact(zcC h ha).mono fun e w' hh=>zcA hh
 ·exact(zbl is h hB ha Br hne _ rfl (xL _ _ _)).mono fun e w' hh=>QB 110 1 (.inl rfl) (fun a=>rfl) (fun a h=>Ys h) hh
 ·exact(zbm is h hB ha Br hne _ rfl (xL _ _ _)).mono fun e w' hh=>QB 119 2 (.inr (.inl rfl)) (fun a=>rfl) (fun a h=>Ys h) hh
 ·exact(zbn is h hB ha Br hne _ rfl (xL _ _ _)).mono fun e w' hh=>QB 100 4 (.inr (.inr rfl)) (fun a=>rfl) (fun a h=>Ys h) hh
 ·exact(VF is h hB ha Br hne _ rfl (qY _ _ _ _)).mono fun e w' hh=>Vz 115 1 (.inl rfl) 255 WJ WJ (fun a=>rfl) (fun a h=>Jj h) hh
 ·exact(zbo is h hB ha Br hne _ rfl (qY _ _ _ _)).mono fun e w' hh=>Vz 116 2 (.inr rfl) 65535 WJ WJ (fun a=>rfl) (fun a h=>Jj h) hh
 ·exact(zbk is h hB ha Br hne (getR l).1 (getR l).2.1 (getR l).2.2 rfl).mono fun e w' hh=>zbh _ _ _ rfl hh
 ·exact(zcB is h hB ha Br hne).mono fun e w' ⟨A2,c2,hh,ho⟩=>zcz A2 c2 hh ho (by
   unfold xM;split
   ·rw[jk];have hN:getN l<65536:=xY;omega
   ·simp)
 exact(VE is h hB ha Br hne hT (vget l).1 (vget l).2.1 (vget l).2.2 rfl).mono fun e w' ⟨h1,hh,hv⟩=>VA _ _ _ rfl h1 hh hv
theorem QA(w:World):Calls prog 109 #[] w fun e w'=>∃mb,e= .returned (.map (some mb))∧Below w.heap.size w w'∧w.heap.size≤mb∧mb<w'.heap.size∧∀W:World,W.heap[mb]?=w'.heap[mb]?→∀kd∈jX,(Instr.lookup 195 (.map (some mb)) (.int .u8 (kd.toNat:Int)) false).run prog W= .ok (.func (.func (rdFn kd)) #[] #[]) W:=by
 have nE:=fun W=>run_makeMap (P:=prog) 195 W
 have Hp:=World.ownsMap_made w prog 5 rawV;have hB:=(kI w.heap.size w).alloc (Q2 _) (.map #[] 0);go_enter func109,ntmps109;go_wp2_with(with_reducible refine h_M ?_);obtain⟨mb,cx⟩:∃m,m=w.heap.size:=⟨_,rfl⟩
 rw[←cx]at Hp ⊢;have Ol:w.heap.size≤mb:=by omega
 clear cx nE;generalize(w.alloc (.map #[] 0))=v1 at*;refine zc (zl (H:=Value) _ rfl _ _ _ 195 rfl 5 197 zz underlying195 rawV _ _ _ rfl Hp WX _ _ (.int .u8 98) rfl rfl (Maps.keyOf_int_mk underlying5 WJ) _ [] rfl ?_);intro v2 Hs bN;have Hc:=hB.grown bN hB.size Wx;clear Hp bN hB;have Hp:=Hs;have hB:=Hc;clear Hs Hc;generalize v2=v1 at*;go_wp2_with(with_reducible refine h_M ?_);refine zc (zl (H:=Value) _ rfl _ _ _ 195 rfl 5 197 zz underlying195 rawV _ _ _ rfl Hp WX _ _ (.int .u8 110) rfl rfl (Maps.keyOf_int_mk underlying5 WJ) _ [] rfl ?_);intro v2 Hs bN;have Hc:=hB.grown bN hB.size Wx;clear Hp bN hB;have Hp:=Hs;have hB:=Hc;clear Hs Hc;generalize v2=v1 at*;go_wp2_with(with_reducible refine h_M ?_);refine zc (zl (H:=Value) _ rfl _ _ _ 195 rfl 5 197 zz underlying195 rawV _ _ _ rfl Hp WX _ _ (.int .u8 119) rfl rfl (Maps.keyOf_int_mk underlying5 WJ) _ [] rfl ?_);intro v2 Hs bN;have Hc:=hB.grown bN hB.size Wx;clear Hp bN hB;have Hp:=Hs;have hB:=Hc;clear Hs Hc;generalize v2=v1 at*;go_wp2_with(with_reducible refine h_M ?_);refine zc (zl (H:=Value) _ rfl _ _ _ 195 rfl 5 197 zz underlying195 rawV _ _ _ rfl Hp WX _ _ (.int .u8 100) rfl rfl (Maps.keyOf_int_mk underlying5 WJ) _ [] rfl ?_);intro v2 Hs bN;have Hc:=hB.grown bN hB.size Wx;clear Hp bN hB;have Hp:=Hs;have hB:=Hc;clear Hs Hc;generalize v2=v1 at*;go_wp2_with(with_reducible refine h_M ?_);refine zc (zl (H:=Value) _ rfl _ _ _ 195 rfl 5 197 zz underlying195 rawV _ _ _ rfl Hp WX _ _ (.int .u8 115) rfl rfl (Maps.keyOf_int_mk underlying5 WJ) _ [] rfl ?_);intro v2 Hs bN;have Hc:=hB.grown bN hB.size Wx;clear Hp bN hB;have Hp:=Hs;have hB:=Hc;clear Hs Hc;generalize v2=v1 at*;go_wp2_with(with_reducible refine h_M ?_);refine zc (zl (H:=Value) _ rfl _ _ _ 195 rfl 5 197 zz underlying195 rawV _ _ _ rfl Hp WX _ _ (.int .u8 116) rfl rfl (Maps.keyOf_int_mk underlying5 WJ) _ [] rfl ?_);intro v2 Hs bN;have Hc:=hB.grown bN hB.size Wx;clear Hp bN hB;have Hp:=Hs;have hB:=Hc;clear Hs Hc;generalize v2=v1 at*;go_wp2_with(with_reducible refine h_M ?_);refine zc (zl (H:=Value) _ rfl _ _ _ 195 rfl 5 197 zz underlying195 rawV _ _ _ rfl Hp WX _ _ (.int .u8 120) rfl rfl (Maps.keyOf_int_mk underlying5 WJ) _ [] rfl ?_);intro v2 Hs bN;have Hc:=hB.grown bN hB.size Wx;clear Hp bN hB;have Hp:=Hs;have hB:=Hc;clear Hs Hc;generalize v2=v1 at*;go_wp2_with(with_reducible refine h_M ?_);refine zc (zl (H:=Value) _ rfl _ _ _ 195 rfl 5 197 zz underlying195 rawV _ _ _ rfl Hp WX _ _ (.int .u8 114) rfl rfl (Maps.keyOf_int_mk underlying5 WJ) _ [] rfl ?_);intro v2 Hs bN;have Hc:=hB.grown bN hB.size Wx;clear Hp bN hB;have Hp:=Hs;have hB:=Hc;clear Hs Hc;generalize v2=v1 at*;go_wp2_with(with_reducible refine h_M ?_);refine zc (zl (H:=Value) _ rfl _ _ _ 195 rfl 5 197 zz underlying195 rawV _ _ _ rfl Hp WX _ _ (.int .u8 118) rfl rfl (Maps.keyOf_int_mk underlying5 WJ) _ [] rfl ?_);intro v2 Hs bN;have Hc:=hB.grown bN hB.size Wx;clear Hp bN hB;have Hp:=Hs;have hB:=Hc;clear Hs Hc;generalize v2=v1 at*;go_wp2_with(with_reducible refine h_M ?_);go_ret;refine⟨mb,rfl,hB,Ol,?_,fun W hW kd hk=>?_⟩
 ·obtain⟨es,clock,hb,_⟩:=Hp;exact(Array.getElem?_eq_some_iff.1 hb).1
 obtain⟨es,clock,hb,F,hx,hy⟩:=Hp;have gM:W.ownsMap prog 5 rawV mb _ _:=⟨es,clock,hW.trans hb,F,hx,hy⟩;unfold jX at hk;simp only[q7,q8,or_false]at hk;rcases hk with rfl|rfl|rfl|rfl|rfl|rfl|rfl|rfl|rfl
 ·obtain⟨v,ps,bv,hv⟩:=gM.lookup (t:=195) zz underlying195 (z:=.nilFunc) Wj (zd:=.held .nilFunc) (zp:=[]) rfl (key:=.int .u8 98) (kl:=.int .u8 98) (Maps.keyOf_int_mk underlying5 WJ);have h2:=congrArg Prod.fst (Option.some.inj hv);have h3:DataW.held v=DataW.held (.func (.func 127) #[] #[]):=h2.trans Wj;have h4:v= .func (.func 127) #[] #[]:=by injection h3
  rw[h4]at bv;exact bv
 ·obtain⟨v,ps,bv,hv⟩:=gM.lookup (t:=195) zz underlying195 (z:=.nilFunc) Wj (zd:=.held .nilFunc) (zp:=[]) rfl (key:=.int .u8 110) (kl:=.int .u8 110) (Maps.keyOf_int_mk underlying5 WJ);have h2:=congrArg Prod.fst (Option.some.inj hv);have h3:DataW.held v=DataW.held (.func (.func 128) #[] #[]):=h2.trans Wj;have h4:v= .func (.func 128) #[] #[]:=by injection h3
  rw[h4]at bv;exact bv
 ·obtain⟨v,ps,bv,hv⟩:=gM.lookup (t:=195) zz underlying195 (z:=.nilFunc) Wj (zd:=.held .nilFunc) (zp:=[]) rfl (key:=.int .u8 119) (kl:=.int .u8 119) (Maps.keyOf_int_mk underlying5 WJ);have h2:=congrArg Prod.fst (Option.some.inj hv);have h3:DataW.held v=DataW.held (.func (.func 129) #[] #[]):=h2.trans Wj;have h4:v= .func (.func 129) #[] #[]:=by injection h3
  rw[h4]at bv;exact bv
 ·obtain⟨v,ps,bv,hv⟩:=gM.lookup (t:=195) zz underlying195 (z:=.nilFunc) Wj (zd:=.held .nilFunc) (zp:=[]) rfl (key:=.int .u8 100) (kl:=.int .u8 100) (Maps.keyOf_int_mk underlying5 WJ);have h2:=congrArg Prod.fst (Option.some.inj hv);have h3:DataW.held v=DataW.held (.func (.func 130) #[] #[]):=h2.trans Wj;have h4:v= .func (.func 130) #[] #[]:=by injection h3
  rw[h4]at bv;exact bv
 ·obtain⟨v,ps,bv,hv⟩:=gM.lookup (t:=195) zz underlying195 (z:=.nilFunc) Wj (zd:=.held .nilFunc) (zp:=[]) rfl (key:=.int .u8 115) (kl:=.int .u8 115) (Maps.keyOf_int_mk underlying5 WJ);have h2:=congrArg Prod.fst (Option.some.inj hv);have h3:DataW.held v=DataW.held (.func (.func 131) #[] #[]):=h2.trans Wj;have h4:v= .func (.func 131) #[] #[]:=by injection h3
  rw[h4]at bv;exact bv
 ·obtain⟨v,ps,bv,hv⟩:=gM.lookup (t:=195) zz underlying195 (z:=.nilFunc) Wj (zd:=.held .nilFunc) (zp:=[]) rfl (key:=.int .u8 116) (kl:=.int .u8 116) (Maps.keyOf_int_mk underlying5 WJ);have h2:=congrArg Prod.fst (Option.some.inj hv);have h3:DataW.held v=DataW.held (.func (.func 132) #[] #[]):=h2.trans Wj;have h4:v= .func (.func 132) #[] #[]:=by injection h3
  rw[h4]at bv;exact bv
 ·obtain⟨v,ps,bv,hv⟩:=gM.lookup (t:=195) zz underlying195 (z:=.nilFunc) Wj (zd:=.held .nilFunc) (zp:=[]) rfl (key:=.int .u8 120) (kl:=.int .u8 120) (Maps.keyOf_int_mk underlying5 WJ);have h2:=congrArg Prod.fst (Option.some.inj hv);have h3:DataW.held v=DataW.held (.func (.func 133) #[] #[]):=h2.trans Wj;have h4:v= .func (.func 133) #[] #[]:=by injection h3
  rw[h4]at bv;exact bv
 ·obtain⟨v,ps,bv,hv⟩:=gM.lookup (t:=195) zz underlying195 (z:=.nilFunc) Wj (zd:=.held .nilFunc) (zp:=[]) rfl (key:=.int .u8 114) (kl:=.int .u8 114) (Maps.keyOf_int_mk underlying5 WJ);have h2:=congrArg Prod.fst (Option.some.inj hv);have h3:DataW.held v=DataW.held (.func (.func 134) #[] #[]):=h2.trans Wj;have h4:v= .func (.func 134) #[] #[]:=by injection h3
  rw[h4]at bv;exact bv
 obtain⟨v,ps,bv,hv⟩:=gM.lookup (t:=195) zz underlying195 (z:=.nilFunc) Wj (zd:=.held .nilFunc) (zp:=[]) rfl (key:=.int .u8 118) (kl:=.int .u8 118) (Maps.keyOf_int_mk underlying5 WJ);have h2:=congrArg Prod.fst (Option.some.inj hv);have h3:DataW.held v=DataW.held (.func (.func 135) #[] #[]):=h2.trans Wj;have h4:v= .func (.func 135) #[] #[]:=by injection h3
 rw[h4]at bv;exact bv
def zcw(w:World)(b:List UInt8)(e:Ending)(w':World):Prop:=∃(m:Mt) (A:Option Addr) (c:Nat) (er:Int),e= .returned (.tuple #[.agg (mtV m A c),.int .i64 er])∧RM w' (FN w.heap.size w') m A c∧Below w.heap.size w w'∧GetM b m er
theorem RM.zero(w:World)(F:Nat→Prop):RM w F mt0 none 0:=⟨by decide,by decide,⟨[],rfl,RdX.nil _ _ _ _ _ (q6 _),fun p hp=>by cases hp⟩,q6 _⟩
theorem zbe{lr:List UInt8}{fl:Nat}(h:(fl,lr,false)=mnum l false 2):2≤l.length∧lr=l.drop 2:=by
 rw[qG WJ]at h;injection h with _ h
 unfold xe at h;split at h
 ·injection h with _ h;cases h
 rename_i hn
 injection h with h1 _
 refine⟨?_,h1⟩;have:¬((l.length:Int)<2):=fun e=>hn (.inr (.inr e))
 omega
theorem MpS.rm{bs:Nat}{xs:List (Ag×AH)}(h:MpS w bs A c xs)(hB:B≤bs)(cls code:Nat)(sync:Bool)(hc:cls<256)(hd:code<256)(hl:xs.length≤140737488351232):RM w (FN B w) ⟨cls,code,sync,xs.map (·.1)⟩ A c:=by
 have Cc:∀g,FB bs A w g→FN B w g:=fun g hg=>⟨k8 hB hg.1,hg.2.1⟩
 refine⟨hc,hd,⟨xs,rfl,?_,fun p hp=>(h.el p hp).mono Cc⟩,by simpa using hl⟩;have ho:=h.own;show RdX w (FN B w) 12 A (xs.map (·.1)).length c (rowC agC xs)
 exact Z5q_
theorem RM.ab{m:Mt}(hm:RM w F m A c):MB m:=by
 refine⟨hm.cls,hm.code,fun x hx=>?_⟩;obtain⟨xs,e,_,h2⟩:=hm.row;rw[←e]at hx;obtain⟨p,hp,rfl⟩:=List.mem_map.1 hx;exact(h2 p hp).ab
theorem zcx(fl i:Nat)(h:fl<18446744073709551616):(bits BinOp.and IntKind.u64 ((fl:Int) / 2 ^ i) 1==1)=decide (fl / 2 ^ i % 2=1):=by
 have e:((fl:Int) / 2 ^ i)=((fl / 2 ^ i:Nat):Int):=by rw[Int.natCast_ediv];norm_cast
 have hl:fl / 2 ^ i≤fl:=Nat.div_le_self _ _;rw[e];generalize fl / 2 ^ i=q at*;rw[and_one_u64 _ Wq Wq];by_cases h1:q % 2=1
 ·rw[decide_eq_true h1];simp;omega
 rw[decide_eq_false h1];simp;omega
theorem MRd.grown{row:Option Nat}(h:MRd w B rb l bad)(hB:B≤w.heap.size)(hg:w.grownBy w' row)(hr:∀g,row=some g→B≤g∧g≠rb):MRd w' B rb l bad:=by
 obtain⟨A,n,c,hb,oc,hn⟩:=h;exact⟨A,n,c,hb.grown hg (fun e=>(hr _ e.symm).2 rfl),oc.grown hg hB (fun g hg=>(hr g hg).1),hn⟩
theorem zbf(f:Nat→List UInt8)(h:∀i,(f i).length≤2000000):∀n,((K0 n).flatMap f).length≤2000000*n:=by
 intro n
 induction n with
 | zero=>simp
 | succ n ih=>
  rw[List.range_succ,List.flatMap_append,KL];have:=h n;simp only[vz,List.flatMap_nil,z3];omega
theorem Ji(m:Mt):(putM m).length≤6000010:=by
 unfold putM;split
 ·rename_i hg
  have hl:m.args.length≤3:=by
   unfold yI kH xz at hg;simp only[Bool.and_eq_true,decide_eq_true_eq]at hg;rw[hg.1.1.2];exact(qp _ _).2
  have h1:=zbf (byI m) (fun i=>by
   unfold byI;split
   ·exact ZD _ _
   ·simp) m.args.length
  rw[KL]
  have h2:(kF m.cls m.code m.sync (zF (m.args.map toSA))).length≤6:=by
   unfold kF;split<;>simp[zr]
  omega
 simp
theorem zdK{kd:UInt8}(hk:kd∈jX):∀(args:Array Value) (w:World),(callFunc (rdFn kd) args).run prog w= .ok (.enter (rdFn kd) args) w:=by
 unfold jX at hk;simp only[q7,q8,or_false]at hk;rcases hk with rfl|rfl|rfl|rfl|rfl|rfl|rfl|rfl|rfl<;>exact fun _ _=>rfl
theorem zbg(A:Option Addr)(n c:Nat)(b:List UInt8)(w:World)(he:MEnv w)(hr:RdB w w.heap.size A n c b)(hn:n≤100000000)
  (B4:∀kd,kd∈yv (yp (b.getD 0 0).toNat (b.getD 1 0).toNat)→∀(W:World) (rb ab:Nat) (l:List UInt8) (bad is:Bool),MRd W w.heap.size rb l bad→w.heap.size≤rb→Box W ab 80 #[.bool is,.int .u64 0,.string ⟨#[]⟩,.int .u32 0,.string ⟨#[]⟩,.string ⟨#[]⟩,.slice none 0 0,.int .u8 0,.int .u64 0,.string ⟨#[]⟩,.slice none 0 0,.slice none 0 0]→w.heap.size≤ab→ab≠rb→Below w.heap.size w W→
   Calls prog (rdFn kd) #[.pointer (some ⟨rb,0,none⟩),.pointer (some ⟨ab,0,none⟩)] W (XJ W w.heap.size rb ab kd is l bad))
  (ca:∀(m:Mt) (A:Option Addr) (c:Nat) (W:World),m.cls=(b.getD 0 0).toNat→m.code=(b.getD 1 0).toNat→RMw W m A c→Below w.heap.size w W→Calls prog 50 #[.agg (mtV m A c)] W (MPut W m)):Calls prog 87 #[.slice A n c] w (zcw w b):=by
 have LH:=Q1 B4;have C2:=Q1 ca;clear B4 ca;obtain⟨zb,w0,bC,bh,hz,Hr⟩:=yT w #[.int .u8 0,.int .u8 0,.bool false,.slice none 0 0] 106;have tg:w.heap.size≤zb:=by omega
 have BD:b.length=n:=RdB.length hr;by_cases h2:n<2
 ·exact Z29_
 have g2:¬(n:Int)<2:=by omega
 have g3:(1:Int)<(n:Int):=by omega
 have g4:(0:Int)<(n:Int):=by omega
 have g5:0<n:=by omega
 have g6:1<n:=by omega
 obtain⟨x,y,r,cU⟩:∃x y r,b=x::y::r:=by
  match b,BD with
  | [],h=>simp at h;omega
  | [_],h=>simp at h;omega
  | x::y::r,_=>exact⟨x,y,r,rfl⟩
 obtain⟨g,off,hA,DJ,eC⟩:=hr.at_ Wq;subst hA
 have E5:∀W,Below w.heap.size w W→W.cell? ⟨g,off,none⟩=some (.int .u8 (x.toNat:Int))∧W.cell? ⟨g,off+1,none⟩=some (.int .u8 (y.toNat:Int)):=fun W hW=>
  ⟨(hW.cell (p:=⟨g,off,none⟩) DJ).trans (by have:=eC 0 (u8v x) (by rw[cU];rfl);rw[kS]at this;exact this),(hW.cell (p:=⟨g,off+1,none⟩) DJ).trans (by have:=eC 1 (u8v y) (by rw[cU];rfl);rw[kS]at this;exact this)⟩
 go_enter func87,ntmps87;go_upto_region 3 with fail;rw[←bC,←bh];clear bC bh;refine zt (fun W:World=>Below w.heap.size w W) Wj ?_;have hS:Below w.heap.size w w0.drew:=za Hr 1;replace hz:Box w0.drew zb 106 #[.int .u8 0,.int .u8 0,.bool false,.slice none 0 0]:=hz;generalize w0.drew=wd at*;refine rg_t 0 hS ?_;simp only[v9,vv,Act.put,j1,j2,j8];refine rg_t 1 hS ?_;simp only[g_S];refine ze 2 (v:=?_) rfl Wj Wj Wj hS rfl ?_ ?_;rotate_left
 ·intro wS He;have k0:=(E5 wS He).1;go_simp;(with_reducible rfl)
 simp only[g_S];refine rg_t 3 hS ?_;simp only[g_S];refine rg_t 4 hS ?_;simp only[g_S];refine ze 5 (v:=?_) rfl Wj Wj Wj hS rfl ?_ ?_;rotate_left
 ·intro wS He;have k0:=(E5 wS He).2;go_simp;(with_reducible rfl)
 simp only[g_S];refine rg_t 6 hS ?_;simp only[g_S];refine zj 7 rfl Wj rfl (fun K hK=>?_);obtain⟨mb,w1,bC,bh,hm,ia⟩:=yT wd #[.int .u8 0,.int .u8 0,.bool false,.slice none 0 0] 106;have BH:=hS.trans (ia.mono hS.size);have cq:=hz.below ia;have hmz:zb<mb:=by rw[bC];exact hz.lt
 go_simp;rw[←bC,←bh];clear bC bh ia hz;refine hK _ _ BH ?_;clear hK K;try simp only[g_S]
 refine zj 8 rfl Wj rfl (fun K hK=>?_);refine zK (v:=.agg #[.int .u8 (x.toNat:Int),.int .u8 (y.toNat:Int),.bool false,.slice none 0 0]) (vs:=[.int .u8 (x.toNat:Int),.int .u8 (y.toNat:Int),.bool false,.slice none 0 0]) rfl rfl rfl hm rfl Wj Wz qP #[.int .u8 (x.toNat:Int),.int .u8 (y.toNat:Int),.bool false,.slice none 0 0] Wz ?_;intro w2 dU Hm _;have BI:=BH.grown Hm BH.size Wx;have et:=cq.grown Hm (sne Wq);refine hK _ _ BI ?_;clear hK K hS BH cq hm Hm;refine zD Wj ?_;have Hc:=BI;have gf:=Zy x.toNat y.toNat w2 (he.on Hc);have uC:(b.getD 0 0).toNat=x.toNat∧(b.getD 1 0).toNat=y.toNat:=by rw[cU];exact⟨rfl,rfl⟩
 have dB:=Q1 uC;have uU:=Q1 cU;clear uC cU BI;have x0:=dU.c0;have x1:=dU.c1
 cases Cq:yp x.toNat y.toNat with
 | none=>
  rw[Cq]at gf;simp only[yv,Option.map_none,Option.getD_none,Option.isSome_none]at gf;have Rz:=Q1 Cq;clear Cq;go_wp2_with(with_reducible refine h_A ?_);refine gf.mono ?_;rintro e w3 ⟨rfl,Hh⟩;have fV:=et.below Hh;have Hh:=Hc.trans (Hh.mono Hc.size);clear x0 x1 dU et Hc gf;go_wp2_with(with_reducible refine h_B ?_);refine zc (zm (v:=.agg #[.int .u8 0,.int .u8 0,.bool false,.slice none 0 0]) (vs:=[.int .u8 0,.int .u8 0,.bool false,.slice none 0 0]) rfl rfl rfl rfl fV rfl Wj Wz qP #[.int .u8 0,.int .u8 0,.bool false,.slice none 0 0] Wz ?_);intro oG de BY _;have H3:=Hh.grown BY Hh.size Wx;go_wp2_with(with_reducible refine h_A ?_);refine zG rfl de rfl rfl underlying106 rfl Wj rfl ?_
  exact⟨mt0,none,0,80,rfl,RM.zero _ _,H3,.inr (.inl ⟨by omega,by rw[dB.out.1,dB.out.2];exact Rz.out,rfl,rfl⟩)⟩
 | some row=>
  rw[Cq]at gf;simp only[yv,Option.map_some,Option.getD_some,Option.isSome_some]at gf;obtain⟨bK,ft⟩:=qp x.toNat y.toNat;obtain⟨kd,eg⟩:∃k,k=yv (yp x.toNat y.toNat):=⟨_,rfl⟩
  have NI:row.kinds=kd:=by rw[eg,Cq];rfl
  rw[NI]at gf;rw[←eg]at bK ft;have B4:=LH.out;rw[dB.out.1,dB.out.2,←eg]at B4;have Wn:=Q1 B4;have ca:=C2.out;rw[dB.out.1,dB.out.2]at ca;have OY:=Q1 ca;clear B4 ca LH C2;have u9:=Q1 eg;have nS:=Q1 bK;have p7:Hid ((yp x.toNat y.toNat).isSome=true):=Q1 (by rw[Cq];rfl);clear Cq NI eg bK;obtain⟨cb,Bs⟩:∃q,q=decide (x.toNat≤2):=⟨_,rfl⟩
  have fh:=fun W=>kE x.toNat W
  rw[←Bs]at fh;have ro:=Q1 Bs;clear Bs;go_wp2_with(with_reducible refine h_A ?_);refine gf.mono ?_;rintro e w3 ⟨rfl,Hh⟩;have m7:=dU.below Hh;have fV:=et.below Hh;replace Hh:=Hc.trans (Hh.mono Hc.size);clear x0 x1 dU et Hc gf;have x0:=m7.c0;have x1:=m7.c1;go_wp2_with(with_reducible refine h_A ?_);refine(fh _).mono ?_;rintro e w4 ⟨rfl,rfl⟩;clear fh;go_upto_if 41 with fail;clear x0 x1;go_cut [7]from 38 to 51 (fun s7 wx=>∃(at_:Nat) (sync:Bool),s7= .int .i64 (at_:Int)∧Hid (at_=atM x.toNat)∧Hid (sync=kq x.toNat b)∧Box wx mb 106 #[.int .u8 (x.toNat:Int),.int .u8 (y.toNat:Int),.bool sync,.slice none 0 0]∧Box wx zb 106 #[.int .u8 0,.int .u8 0,.bool false,.slice none 0 0]∧Below w.heap.size w wx)
  case first=>
   cases cb
   ·(have n7:¬x.toNat≤2:=by have:=ro.out.symm;simpa using this);have lZ:Hid (4=atM x.toNat):=Q1 (by unfold atM;rw[if_neg n7]);have HDX:Hid (decide (x.toNat≤2)=false):=Q1 (decide_eq_false n7);clear n7 ro;by_cases h4:n<4
    ·have qqbg:=();exact Z2e_
    (have g7:(4:Int)≤(n:Int):=by omega);(have g8:(3:Int)<(n:Int):=by omega);(have g9:3<n:=by omega);have bX:b[3]?=some b[3]:=KS Wq;have k3:w3.cell? ⟨g,off+3,none⟩=some (.int .u8 (b[3].toNat:Int)):=(Hh.cell (p:=⟨g,off+3,none⟩) DJ).trans (by have:=eC 3 (u8v b[3]) (by rw[List.getElem?_map,bX];rfl);rw[kS]at this;exact this);(have mi:∀q:Bool,decide (b[3]=1)=q→Hid (q=kq x.toNat b):=fun q hq=>Q1 (by unfold kq;rw[HDX.out,bX,←hq];by_cases h1:b[3]=1<;>simp[h1]));generalize b[3]=z at*;clear bX;by_cases cq:z=1
    ·have pW:=mi true (decide_eq_true cq);subst cq;clear mi;have k4:w3.cell? ⟨g,off+3,none⟩=some (.int .u8 1):=k3;clear k3;go_wp2_with(with_reducible refine h_B ?_);refine zc (zm (v:=.bool true) (vs:=[.bool true]) rfl rfl rfl rfl m7 rfl Wj Wz wX #[.int .u8 (x.toNat:Int),.int .u8 (y.toNat:Int),.bool true,.slice none 0 0] Wz ?_);intro w5 gC bc _;go_wp2_with(with_reducible refine h_A ?_);go_meet;exact⟨4,true,rfl,lZ,pW,gC,fV.grown bc (sne Wq),Hh.grown bc Hh.size Wx⟩
    exact Z2e_
   (have n7:x.toNat≤2:=by have:=ro.out.symm;simpa using this);have lZ:Hid (2=atM x.toNat):=Q1 (by unfold atM;rw[if_pos n7]);have mi:Hid (false=kq x.toNat b):=Q1 (by unfold kq;rw[decide_eq_true n7];rfl);clear n7 ro;go_wp2_with(with_reducible refine h_A ?_);go_meet;exact⟨2,false,rfl,lZ,mi,m7,fV,Hh⟩
  clear m7 fV Hh ro;obtain⟨at_,sync,rfl,lZ,mi,wT,eX,Hn⟩:=hcut;have OL:at_≤4:=by rw[lZ.out];unfold atM;split<;>omega
  have rz:min (at_:Int) (n:Int)=((min at_ n:Nat):Int):=by omega
  obtain⟨a2,db⟩:∃q,q=min at_ n:=⟨_,rfl⟩
  rw[←db]at rz;have hhg:a2≤n:=by omega
  have My:Hid (a2=min at_ n):=Q1 db;clear db;have cV:RdB wc w.heap.size (some ⟨g,off,none⟩) n c b:=hr.below Hn;have fp:=cV.cap;go_wp2_with(with_reducible refine h_S ?_);refine zc (kD slB rfl rfl rfl cV a2 n c (.inr ⟨_,_,rfl,rfl⟩) (.inl ⟨rfl,rfl⟩) (.inl ⟨rfl,rfl⟩) mq Wq Wq (Q2 _) (Q2 _) ?_);intro A5 dv _;have e5:((b.map u8v).take (n*1)).drop (a2*1)=(b.drop a2).map u8v:=by rw[q9,q9,K1 Hq,z4]
  rw[e5]at dv;have cS:=qE A5 (n-a2) (c-a2) (b.drop a2) wc (yU dv Hn.size) Wq;clear e5 dv rz;go_wp2_with(with_reducible refine h_S ?_);refine cS.mono ?_;rintro e w5 ⟨ob,vb,rfl,rA,iu,hR,bz⟩;have gC:=wT.below bz;have fY:=eX.below bz;replace bz:=Hn.trans (bz.mono Hn.size);have ae:=wT.lt;clear cS wT eX Hn cV;have iH:=yn hR 2 Wq Wq;have Rv:=xg (b.drop a2) false 2;obtain⟨q,hq⟩:∃q,q=mnum (b.drop a2) false 2:=⟨_,rfl⟩
  rw[←hq]at iH Rv;obtain⟨fl,lr,bd⟩:=q;simp only at iH Rv;have HQ:=Q1 hq;clear hq;go_wp2_with(with_reducible refine h_A ?_);refine iH.mono ?_;rintro e w6 ⟨rfl,bF,bm⟩;have u0:=gC.grown bm (sne Wq);have ej:=fY.grown bm (sne Wq);have bH:=bz.grown bm bz.size Wx;clear iH gC fY bz bm hR;try simp only at bF
  have iq:=yD bF;go_wp2_with(with_reducible refine h_A ?_);refine iq.mono ?_;rintro e w7 ⟨rfl,rfl⟩;clear iq bF
  cases bd
  case true=>
   have cN:Hid (∀m',yI m'=true→MB m'→putM m'≠b):=Q1 (fun m' h1 h2 h3=>by
    obtain⟨_,_,_,q4,q5⟩:=jb uU.out ⟨h1,h2,h3⟩;rw[←lZ.out]at q4 q5;have e:=HQ.out;rw[My.out,zA Wq,q5]at e;(injection e with _ e);injection e with _ e
    cases e)
   go_wp2_with(with_reducible refine h_B ?_);refine zc (zm (v:=.agg #[.int .u8 0,.int .u8 0,.bool false,.slice none 0 0]) (vs:=[.int .u8 0,.int .u8 0,.bool false,.slice none 0 0]) rfl rfl rfl rfl ej rfl Wj Wz qP #[.int .u8 0,.int .u8 0,.bool false,.slice none 0 0] Wz ?_);intro oG de BY _;have H3:=bH.grown BY bH.size Wx;go_wp2_with(with_reducible refine h_A ?_);refine zG rfl de rfl rfl underlying106 rfl Wj rfl ?_;exact⟨mt0,none,0,5,rfl,RM.zero _ _,H3,.inr (.inr ⟨by omega,by rw[dB.out.1,dB.out.2];exact p7.out,.inr ⟨rfl,rfl,cN.out⟩⟩)⟩
  obtain⟨cR,fA⟩:=zbe HQ.out;rw[k9,BD]at cR;obtain rfl:a2=at_:=by have:=My.out;omega
  rw[z7]at fA;have oI:=Q1 fA;have i9:Hid (mnum (b.drop (atM x.toNat)) false 2=(fl,lr,false)):=Q1 (by rw[←lZ.out];exact HQ.out.symm);have Tk:a2+2≤n:=by omega
  have mo:RdB w7 w.heap.size (some ⟨g,off,none⟩) n c b:=hr.below bH;clear fA cR HQ My lZ;go_wp2_with(with_reducible refine h_S ?_);refine zc (kD slB rfl rfl rfl mo (a2+2) n c (.inr ⟨_,_,rfl,by omega⟩) (.inl ⟨rfl,rfl⟩) (.inl ⟨rfl,rfl⟩) mq Wq Wq (Q2 _) (Q2 _) ?_);intro A8 nI _;have e8:((b.map u8v).take (n*1)).drop ((a2+2)*1)=(b.drop (a2+2)).map u8v:=by rw[q9,q9,K1 Hq,z4]
  rw[e8,←oI.out]at nI;clear e8 mo;go_upto_region 16 with fail;obtain⟨rb,w8,bC,bh,od,ia⟩:=yT w7 #[.slice A8 (n-(a2+2)) (c-(a2+2)),.bool false] 194;rw[←bC,←bh];have wi:=u0.below ia;have Dc:=ej.below ia;have Be:=bH.trans (ia.mono bH.size);have Pj:=u0.lt;have DK:w.heap.size≤rb:=by rw[bC];exact bH.size
  have pC:mb<rb:=by rw[bC];exact Pj
  have BR:MRd w8 w.heap.size rb lr false:=⟨_,_,_,od,nI.below (ia.mono bH.size),by omega⟩;clear bC bh ia u0 ej bH nI od;go_wp2_with(with_reducible refine h_A ?_);refine(QA w8).mono ?_;rintro e w9 ⟨pm,rfl,Bh,RF,L7,HM⟩;have UP:=wi.below Bh;have iK:=Dc.below Bh;have lG:MRd w9 w.heap.size rb lr false:=BR.kp ((KP.refl w.heap.size mb mb w8).below Be.size Bh) Wq Wq;replace Bh:=Be.trans (Bh.mono Be.size);obtain⟨bs,iT⟩:∃q,q=w9.heap.size:=⟨_,rfl⟩
  have hgh:rb<bs:=by obtain⟨_,_,_,hb,_⟩:=lG;rw[iT];exact hb.lt
  have he7:pm<bs:=by rw[iT];exact L7
  have WT:rb<pm:=by obtain⟨_,_,_,hb,_⟩:=BR;have:=hb.lt;omega
  have An:bs≤w9.heap.size:=Nat.le_of_eq iT;have MI:=Q1 HM;clear wi Dc BR Be HM iT RF L7;have dr:=zh kd;have ud:Hid (ReadTo b 0 [] lr false):=Q1 (ReadTo.start uU.out i9.out);have iM:MpS w9 bs none 0 []:=⟨Own.none_ _ _ _ _,fun p hp=>by cases hp⟩;go_wp2_with(with_reducible refine h_A ?_);go_loopw [73] (fun s wr=>∃(i:Nat) (A3:Option Addr) (c3:Nat) (xs:List (Ag×AH)) (l3:List UInt8) (b3:Bool),i≤kd.length∧s= .int .i64 i∧Hid (xs.length=i)∧Hid (ReadTo b i (xs.map (·.1)) l3 b3)∧MpS wr bs A3 c3 xs∧Box wr mb 106 #[.int .u8 (x.toNat:Int),.int .u8 (y.toNat:Int),.bool sync,.slice A3 i c3]∧Box wr zb 106 #[.int .u8 0,.int .u8 0,.bool false,.slice none 0 0]∧MRd wr w.heap.size rb l3 b3∧wr.heap[pm]?=w9.heap[pm]?∧Below w.heap.size w wr∧bs≤wr.heap.size) (fun s _=>kd.length-(RowKit.intOf s).toNat)
  case atStart=>exact⟨0,none,0,[],lr,false,by omega,rfl,Q1 rfl,ud,iM,UP,iK,lG,rfl,Bh,An⟩
  clear iM UP iK lG Bh ud;obtain⟨i,A3,c3,xs,l3,b3,hi,rfl,un,Am,hS,hm,hz,hR,Hp,hB,Bm⟩:=hrel;by_cases hlt:i<kd.length
  ·(have g1:(i:Int)<(kd.length:Int):=by omega);(have M3:i<(str kd).size:=by rw[dr];exact hlt);(have g2i:(i:Int)≤3:=by omega);have x3:=hm.c3;go_upto_region 21 with fail;have mR:=zcx fl i Rv;(obtain⟨is,BQ⟩:∃q:Bool,q=decide (fl / 2 ^ i % 2=1):=⟨_,rfl⟩);rw[←BQ]at mR;have cF:Hid (∀m,Told b m→∀(h:i<m.args.length),m.args[i].is=is):=Q1 (fun m hm h=>by rw[BQ];exact VS uU.out i9.out hm h);simp only[mR];clear mR BQ x3;obtain⟨ab,w4,Br,gr,Ng,Hn⟩:=zg wr #[.bool is,.int .u64 0,.string ⟨#[]⟩,.int .u32 0,.string ⟨#[]⟩,.string ⟨#[]⟩,.slice none 0 0,.int .u8 0,.int .u64 0,.string ⟨#[]⟩,.slice none 0 0,.slice none 0 0] 80;rw[←Br,←gr];have ot:=Hn.size;have ha9:=hm.lt;have WI:=hz.lt;have wT:=hm.below Hn;have eX:=hz.below Hn;have gy:MRd w4 w.heap.size rb l3 b3:=hR.kp ((KP.refl w.heap.size mb mb wr).below hB.size Hn) Wq Wq;have uR:w4.heap[pm]?=w9.heap[pm]?:=(Hn.block pm Wq).trans Hp;have BG:=hB.trans (Hn.mono hB.size);have pz:=nS.out kd[i] (Vx hlt);have iN:(Instr.lookup 195 (.map (some pm)) (.int .u8 (((str kd)[i]'M3).toNat:Int)) false).run prog w4= .ok (.func (.func (rdFn kd[i])) #[] #[]) w4:=MI.out w4 uR kd[i] pz;have TI:=zdK pz;have pC:=Wn.out kd[i] (Vx hlt) w4 rb ab l3 b3 is gy DK Ng (by have:=hB.size;omega) Wq BG;(have TL:∀g,bs≤g→g<wr.heap.size→w4.heap[g]?=wr.heap[g]?:=fun g _ hg=>Hn.block g hg);(have Rq:wr.heap.size≤ab:=by omega);(have Bz:∀g,blk A3=some g→bs≤g∧g<wr.heap.size:=fun g hg=>hS.own.blk_lt hg);have I6:=hB.size;clear Br gr hm hz hR hB Ng Hn;go_wp2_with(with_reducible refine h_A ?_);refine pC.mono ?_;rintro e w5 ⟨a,ah,l5,b5,rfl,gK,uO,ew,Bt,SM,LC⟩;have Es:Hid (ReadTo b (i+1) (xs.map (·.1)++ [a]) l5 b5):=Q1 (ReadTo.step uU.out u9.out Am.out hlt cF.out LC);have GF:=Bt.size;have gC:=Bt.box wT Wq Wq;have fY:=Bt.box eX Wq Wq;have Dm:w5.heap[pm]?=w9.heap[pm]?:=(Bt.2 pm Wq Wq Wq).trans uR;have H6:=BG.trans Bt.1;have BL:MpS w5 bs A3 c3 xs:=hS.on (fun g h1 h2=>(Bt.2 g Wq Wq Wq).trans (TL g h1 h2)) Wq;have r8:RA w5 (FB bs A3 w5) a ah:=uO.mono (fun g hg=>⟨by have:=hg.1;omega,hg.2,fun e=>by have:=Bz g e;have:=hg.1;omega⟩);clear pC iN pz TI Hp uR gy wT eX BG TL uO Bt LC SM cF Am hS;unfold agV at gK;have a_0:=gK.c0;have a_1:=gK.c1;have a_2:=gK.c2;have a_3:=gK.c3;have a_4:=gK.c4;have a_5:=gK.c5;have a_6:=gK.c6;have a_7:=gK.c7;have a_8:=gK.c8;have a_9:=gK.c9;have a_10:=gK.c10;have a_11:=gK.c11;have o3:=gC.c3;have Bu:Own w5 bs 80 12 A3 i c3 (rowC agC xs):=un.out▸BL.own;go_wp2_with(with_reducible refine h_B ?_);refine zc (jS (W:=w5) Qm slAg underlying82 rfl rfl rfl rfl rfl (a,ah) rfl Bu Wq Wq Wq ?_);intro A9 c9 wA dt fm rM _;have np:=BL.push r8 (by rw[un.out];exact dt) fm rM;have Pv:=gC.grown fm wj;have EB:=fY.grown fm wj;have lc:=ew.grown H6.size fm (fun g hg=>by have:=Bz g hg;omega);have Mc:wA.heap[pm]?=w9.heap[pm]?:=(fm.block pm Wq wj).trans Dm;have rZ:=H6.grown fm H6.size (fun g hg=>by have:=Bz g hg;omega);have Tf:=fm.size;clear BL r8 gC fY ew Dm H6 gK Bu dt fm rM a_0 a_1 a_2 a_3 a_4 a_5 a_6 a_7 a_8 a_9 a_10 a_11 o3;go_wp2_with(with_reducible refine h_B ?_);refine zc (zm (v:=.slice A9 (i+1) c9) (vs:=[.slice A9 (i+1) c9]) rfl rfl rfl rfl Pv rfl Wj Wz wX #[.int .u8 (x.toNat:Int),.int .u8 (y.toNat:Int),.bool sync,.slice A9 (i+1) c9] Wz ?_);intro wC RT gJ hsC;have uW:=np.box gJ Wq;have EL:=EB.grown gJ (sne Wq);have Fk:=lc.grown rZ.size gJ Wx;have Mg:wC.heap[pm]?=w9.heap[pm]?:=(gJ.block pm Wq (sne Wq)).trans Mc;have wV:=rZ.grown gJ rZ.size Wx;go_wp2_with(with_reducible refine h_A ?_);exact⟨⟨i+1,A9,c9,xs++ [(a,ah)],l5,b5,by omega,by go_num,Q1 (by rw[KL,un.out];rfl),Q1 (by rw[v5];exact Es.out),uW,RT,EL,Fk,Mg,wV,by omega⟩,by simp[RowKit.intOf];omega⟩
  exact Zk_
theorem zcr(kd:UInt8)(hk:kd∈wtL)(a:Ag)(h:AH)(w:World)(ha:RAw w a h):Calls prog 60 #[.int .u8 (kd.toNat:Int),.agg (agV a h)] w (ArgR w (okA kd a) (byA kd a)):=by
 unfold wtL at hk;simp only[q7,q8,or_false]at hk;rcases hk with rfl|rfl|rfl
 ·exact zbX a h w ha
 ·exact zbY a h w ha
 exact zbZ a h w ha
def XC(code:Nat)(L:List SA)(bs:List UInt8):Prop:=
 ∀(A:Option Addr) (n c:Nat) (w:World),Rd w w.heap.size 12 A n c (rowC saC L)→
  Calls prog 43 #[.agg #[.int .u8 1,.int .u8 (code:Int),.bool false,.slice A n c]] w fun e w'=>∃A2 c2,e= .returned (.tuple #[.slice A2 bs.length c2,.int .i64 0])∧OwnB w' w.heap.size A2 bs.length c2 bs∧Below w.heap.size w w'
theorem za9{code:Nat}(te:code<256){L:List SA}{bs:List UInt8}(hn:∀a∈L,a.n<18446744073709551616∧a.s.length≤140737488351232)(hl:L.length≤100)(hg:yI ⟨1,code,false,L.map agOf⟩=true)(hp:putM ⟨1,code,false,L.map agOf⟩=bs)(hk:∀kd∈yv (yp 1 code),kd∈wtL):XC code L bs:=by
 intro A n c w hr;obtain⟨rfl,hm⟩:=rm_S te hr hn hl;have h:=XQ ⟨1,code,false,L.map agOf⟩ A c w hm fun kd eg a h W ha=>zcr kd (hk kd eg) a h W ha
 unfold MPut mtV errM at h;rw[hp,if_pos hg]at h;simp only[z1]at h;exact h
theorem jr(n:Nat)(s:List UInt8)(w:World):
  Calls prog 30 #[.int .u64 (n:Int),.string (str s)] w fun e w'=>e= .returned (.agg #[.bool true,.int .u64 (n:Int),.string (str s),.int .u32 0,.string ⟨#[]⟩,.string ⟨#[]⟩,.slice none 0 0,.int .u8 0,.int .u64 0,.string ⟨#[]⟩,.slice none 0 0,.slice none 0 0])∧Below w.heap.size w w':=by
 have qq92:=();exact Z1q_
def rlk0(gp:Nat):Array Value:=#[.int .i64 0,.string ⟨#[]⟩,.pointer (some ⟨gp,0,none⟩),.int .u64 255,.int .u64 4096,.string ⟨#[]⟩,.slice none 0 0]
theorem Vi(w:World):Calls prog 11 #[] w fun e w'=>e= .returned (.pointer (some ⟨w.heap.size+1,0,none⟩))∧Box w' w.heap.size 67 #[.slice none 0 0,.bool false]∧Box w' (w.heap.size+1) 38 (rlk0 w.heap.size)∧Below w.heap.size w w'∧w'.heap.size=w.heap.size+2:=by
 go_enter func11,ntmps11;go_wp2_with(with_reducible refine h_A ?_);go_ret;have bL:=Box.new w #[.slice none 0 0,.bool false] 67;have BW:(w.alloc (.cells #[.slice none 0 0,.bool false] 67)).heap.size=w.heap.size+1:=by simp
 have bE:=Box.new (w.alloc (.cells #[.slice none 0 0,.bool false] 67)) (rlk0 w.heap.size) 38;rw[BW]at bE;have Ha:=(kI w.heap.size w).alloc (Q2 _) (.cells #[.slice none 0 0,.bool false] 67);exact⟨rfl,bL.alloc _,bE,Ha.alloc Ha.size _,by simp⟩
theorem ZO(lb sz:Nat)(a:As)(A:Option Addr)(n c:Nat)(w:World)(h4:w.cell? ⟨lb,4,none⟩=some (.int .u64 (sz:Int)))(Bm:sz≤1000000)(hr:RdG w w.heap.size A n c a.segs)(hw:a.wf)(hs:∀s∈a.segs,s.load.length≤140737488351232)(hn:n≤140737488351232):
  Calls prog 32 #[.pointer (some ⟨lb,0,none⟩),.agg (asV a.chan a.track A n c)] w fun e w'=>e= .returned (.tuple #[.string (str (qR ((sz:Int)-12) a)),.int .i64 (yP ((sz:Int)-12) a:Int)])∧Below w.heap.size w w':=by
 obtain⟨xb,w0,bC,bh,hX,Hr⟩:=zo w (asV a.chan a.track A n c) 42;have fh:=fun(W:World) (h:Below w.heap.size w W)=>Vj a ((sz:Int)-12) A n c w.heap.size W (hr.below h) h.size hw hs hn
 have nh:lb<w.heap.size:=z5 _ _ h4;have NB:=Q1 (KK (most:=(sz:Int)-12) hw);have dm:=YM ((sz:Int)-12) a;obtain⟨E,hE⟩:∃E,E=yP ((sz:Int)-12) a:=⟨_,rfl⟩
 obtain⟨FS,nc⟩:∃E,E=cutF ((sz:Int)-12) a:=⟨_,rfl⟩
 unfold qR;rw[←hE,←nc];rw[←nc]at NB dm;rw[←hE,←nc]at fh;clear hE nc hr hw hs hn;unfold asV at*;go_enter func32,ntmps32;go_upto_region 1 with fail;rw[←bC,←bh];clear bC bh;refine zt (fun W:World=>Box W xb 42 #[.int .u16 (a.chan:Int),.int .u8 (a.track:Int),.slice A n c]∧W.cell? ⟨lb,4,none⟩=some (.int .u64 (sz:Int))) Wj ?_;have hS:Box w0.drew xb 42 #[.int .u16 (a.chan:Int),.int .u8 (a.track:Int),.slice A n c]∧w0.drew.cell? ⟨lb,4,none⟩=some (.int .u64 (sz:Int)):=⟨hX,(Hr.cell (p:=⟨lb,4,none⟩) nh).trans h4⟩;have Ha:Below w.heap.size w w0.drew:=za Hr 1;have ck:=fh w0.drew Ha;clear hX Hr h4 fh;generalize w0.drew=wd at*;refine ze 0 (v:=?_) rfl Wj Wj Wj hS rfl ?_ ?_;rotate_left
 ·intro wS He;have k:=He.1;have q0:=k.cell (j:=0) rfl;have q1:=k.cell (j:=1) rfl;have q2:=k.cell (j:=2) rfl;go_simp;(with_reducible rfl)
 simp only[v9,vv,Act.put,j1,j2,j8];refine rg_t 1 hS ?_;simp only[g_S];refine rg_t 2 hS ?_;simp only[g_S];refine rg_t 3 hS ?_;simp only[g_S];refine ze 4 (v:=?_) rfl Wj Wj Wj hS rfl ?_ ?_;rotate_left
 ·intro wS He;have k:=He.2;go_simp;(with_reducible rfl)
 simp only[g_S];refine rg_t 5 hS ?_;simp only[g_S];refine rg_t 6 hS ?_;simp only[g_S];have fw:IntKind.i64.wrap (sz:Int)=(sz:Int):=IntWalk.i64_in _ ⟨by omega,by omega⟩;have om:IntKind.i64.wrap ((sz:Int)-12)=(sz:Int)-12:=IntWalk.i64_in _ ⟨by omega,by omega⟩;rw[fw,om];clear fw om;refine zj 7 rfl Wj rfl (fun K hK=>?_);go_simp
 (with_reducible refine ck.mono ?_)
 rintro e w1 ⟨A1,c1,rfl,rO,H3⟩;have Hc:=Ha.trans (H3.mono Ha.size);refine hK _ _ ⟨hS.1.below H3,(H3.cell (p:=⟨lb,4,none⟩) (z5 _ _ hS.2)).trans hS.2⟩ ?_;have oe:=hS.1.below H3;have BH:=(H3.cell (p:=⟨lb,4,none⟩) (z5 _ _ hS.2)).trans hS.2;have Nv:OwnF w1 wd.heap.size A1 FS.length c1 FS:=rO;clear hK K ck hS H3 rO;try simp only[g_S]
 have BI:=And.intro oe BH;refine rg_t 8 BI ?_;simp only[g_S];refine rg_t 9 BI ?_;simp only[g_S];refine rg_t 10 BI ?_;simp only[g_S];refine rg_t 11 BI ?_;simp only[g_S];refine rg_t 12 BI ?_;simp only[g_S];refine zD Wj ?_;clear BH oe BI;obtain⟨N,hN⟩:∃N,N=FS.length:=⟨_,rfl⟩
 rw[←hN]at Nv dm ⊢;have HN:=Q1 hN;clear hN;go_wp2_with(with_reducible refine h_A ?_);go_loopw [8,9] (fun s8 s9 wr=>∃(i:Nat) (out:List UInt8),i≤N∧s8= .string (str out)∧s9= .int .i64 (i:Int)∧Hid (out=xw (FS.take i))∧out.length≤4096*i∧Below w1.heap.size w1 wr) (fun _ s9 _=>N-(RowKit.intOf s9).toNat)
 case atStart=>exact⟨0,[],by omega,rfl,rfl,Q1 rfl,by simp,kI _ _⟩
 obtain⟨i,out,hi,rfl,rfl,HO,i5,bO⟩:=hrel;by_cases hlt:i<N
 ·have g1:(i:Int)<(N:Int):=by omega
  obtain⟨b,off,rfl,dP,bK,bD⟩:=qm yE (Nv.rd.below bO) hlt;have k0:wr.cell? ⟨b,off+i*8,none⟩=_:=bD 0 _ rfl;have k1:=bD 1 _ rfl;have k2:=bD 2 _ rfl;have k3:=bD 3 _ rfl;have k4:=bD 4 _ rfl;have k5:=bD 5 _ rfl;have k6:=bD 6 _ rfl;have k7:=bD 7 _ rfl;have gh:=NB.out _ (Vx bK);have HP:Hid (xw (FS.take (i+1))=out++FS[i].put):=Q1 (by rw[Zv bK,HO.out]);have ek:=Qh FS[i];clear bD;generalize FS[i]=f at*;have ca:=Vk f wr gh.1 Wq;unfold frV at ca;go_wp2_with(with_reducible refine h_A ?_)
  (with_reducible refine ca.mono ?_)
  rintro e w3 ⟨A3,c3,rfl,eN,Hh⟩;have sR:=bO.trans (Hh.mono bO.size);have fF:=jm (P:=prog) underlying55 underlying9 underlying5 eN.rd;have BW:=zh out;have cj:=zh f.put;clear ca k0 k1 k2 k3 k4 k5 k6 k7;go_wp2_with(with_reducible refine h_A ?_);exact⟨⟨i+1,out++f.put,by omega,by first|rfl|(rw[jn]),by go_num,Q1 HP.out.symm,by rw[KL];omega,sR⟩,by simp[RowKit.intOf];omega⟩
 have g1:¬(i:Int)<(N:Int):=by omega
 have HE:Hid (out=xw FS):=Q1 (by rw[HO.out,K1 NZ]);go_wp2_with(with_reducible refine h_A ?_);go_ret2;rw[←HE.out];exact⟨rfl,Hc.trans (bO.mono Hc.size)⟩
theorem j3(code:Nat)(L:List SA)(bs:List UInt8)(B6:XC code L bs)(iT:bs.length≤10000)(lb sz:Nat)(A:Option Addr)(n c:Nat)(w:World)(hr:Rd w w.heap.size 12 A n c (rowC saC L))(h4:w.cell? ⟨lb,4,none⟩=some (.int .u64 (sz:Int)))(Bm:sz≤1000000):
  Calls prog 29 #[.pointer (some ⟨lb,0,none⟩),.int .u8 (code:Int),.slice A n c] w fun e w'=>e= .returned (.string (str (ctlB sz bs)))∧Below w.heap.size w w':=by
 have qq84:=();exact Z1i_
def LS.sendA(L:LS)(a:As):List UInt8×Nat:=if L.st≠4 then([],9)else if a.chan=0∨L.ch<a.chan then([],2)else(qR ((L.sz:Int)-12) a,yP ((L.sz:Int)-12) a)
theorem YF(L:LS)(lb gp:Nat)(a:As)(A:Option Addr)(n c:Nat)(w:World)(c0:w.cell? ⟨lb,0,none⟩=some (.int .u8 (L.st:Int)))(c2:w.cell? ⟨lb,2,none⟩=some (.pointer (some ⟨gp,0,none⟩)))(c3:w.cell? ⟨lb,3,none⟩=some (.int .u64 (L.ch:Int)))(c4:w.cell? ⟨lb,4,none⟩=some (.int .u64 (L.sz:Int)))
  (bR:L.st<256) (Bm:L.sz≤1000000) (hr:RdG w w.heap.size A n c a.segs) (hw:a.wf) (hs:∀s∈a.segs,s.load.length≤140737488351232) (hn:n≤140737488351232):
  Calls prog 17 #[.pointer (some ⟨lb,0,none⟩),.agg (asV a.chan a.track A n c)] w fun e w'=>e= .returned (.tuple #[.string (str (L.sendA a).1),.int .i64 ((L.sendA a).2:Int)])∧Below w.heap.size w w':=by
 exact Zw_
theorem zbI(A:Option Addr)(n c:Nat)(b:List UInt8)(w:World)(he:MEnv w)(hT:UTabs w)(hr:RdB w w.heap.size A n c b)(hn:n≤100000000):Calls prog 87 #[.slice A n c] w (zcw w b):=
 zbg A n c b w he hr hn (fun kd hk _ _ _ _ _ is h hB ha Br hne hW=>zcy kd ((qp _ _).1 kd hk) is h hB ha Br hne (hT.on hW)) fun m A c W _ _ hm hW=>zaX m A c W (he.on hW) (hT.on hW) hm
end Go.PH
