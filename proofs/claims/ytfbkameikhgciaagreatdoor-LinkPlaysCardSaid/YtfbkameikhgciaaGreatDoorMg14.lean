/- Parts. -/
import Derived.Test.YtfbkameikhgciaaGreatDoorMg13
set_option linter.all false
set_option maxRecDepth 20000
set_option maxHeartbeats 8000000
open Go.RowKit.Below renaming refl → Q2
open Go.Lib renaming hid → Q1
open List renaming getElem?_eq_getElem → Wb, getElem_cons_zero → Vy, length_append → q5, getElem_toArray → q6, setIfInBounds_toArray → q7, set_cons_zero → q8, set_cons_succ → q9, getElem_mem → kI, all_eq_true → kv
open Nat renaming le_refl → KL, le_trans → KS, lt_of_lt_of_le → K0, add_zero → K2, zero_mul → Vx
open Go.World renaming block_lt_of_cell? → K1
namespace Go.PH
open Go.RowKit Go.Proofs Go.Proofs.Tryz
variable {is : Bool} {B c lb n rc rn s st : Nat} {T U : Nat → Prop} {RA : Option Addr} {fv : Value} {w : World}
section
section
variable {w : World} {B : Nat} {U T : Nat → Prop} {lb n : Nat} {RA : Option Addr} {rn rc : Nat} {L : LS}
theorem LkM.c0(h:LkM w B U T lb n RA rn rc L):w.cell? ⟨lb,0,none⟩=some (.int .u8 (L.st:Int)):=by
 obtain⟨gp,p,SA,sc,TT,tc,th,F,h1,_⟩:=h.ex;exact h1.c0
theorem LkM.c1(h:LkM w B U T lb n RA rn rc L):w.cell? ⟨lb,1,none⟩=some (.slice RA rn rc):=by
 obtain⟨gp,p,SA,sc,TT,tc,th,F,h1,_⟩:=h.ex;exact h1.c1
theorem LkM.c3(h:LkM w B U T lb n RA rn rc L):w.cell? ⟨lb,3,none⟩=some (.int .u64 (L.ch:Int)):=by
 obtain⟨gp,p,SA,sc,TT,tc,th,F,h1,_⟩:=h.ex;exact h1.c3
theorem LkM.c4(h:LkM w B U T lb n RA rn rc L):w.cell? ⟨lb,4,none⟩=some (.int .u64 (L.sz:Int)):=by
 obtain⟨gp,p,SA,sc,TT,tc,th,F,h1,_⟩:=h.ex;exact h1.c4
theorem LkM.blt(h:LkM w B U T lb n RA rn rc L):lb<w.heap.size:=(h.uB _ h.lb).2
theorem LkM.more(h:LkM w B U T lb n RA rn rc L){T2:Nat→Prop}(h1:∀k,T k→T2 k)(h2:∀k,T2 k→k<w.heap.size∧¬U k):LkM w B U T2 lb n RA rn rc L where
 ex:=by
  obtain⟨gp,p,SA,sc,TT,tc,th,F,k1,k2,k3,k4,k5,k6,k7⟩:=h.ex;exact⟨gp,p,SA,sc,TT,tc,th,F,k1,k2,k3,k4,k5,fun x hx=>⟨(k6 x hx).1,fun b e=>h1 b ((k6 x hx).2 b e)⟩,k7⟩
 lb:=h.lb
 size:=h.size
 uB:=h.uB
 tB:=fun b hb=>(h2 b hb).1
 ut:=fun b hb=>(h2 b hb).2
theorem LkM.gath(h:LkM w B U T lb n RA rn rc L):∃gp F,w.cell? ⟨lb,2,none⟩=some (.pointer (some ⟨gp,0,none⟩))∧Ga w F gp n L.g∧(∀b,F b→U b)∧¬F lb∧
  ∀w' F' g',(∀k,F' k→F k∨w.heap.size≤k)→Ga w' F' gp (n+1) g'→KeepF F w w'→LkM w' B (fun k=>(U k∧¬F k)∨F' k) T lb (n+1) RA rn rc {L with g:=g'}:=by
 obtain⟨gp,p,SA,sc,TT,tc,th,F,h1,h2,h3,h4,h5,h6,h7,h8,h9,dX,eS⟩:=h.ex;refine⟨gp,F,h1.cell (j:=2) rfl,h7,h8,eS,fun w' F' g' hF cU hk=>⟨⟨gp,p,SA,sc,TT,tc,th,F',zU h1 hk eS,h2,zw h3 hk (fun b e=>(h9 b e).2.2.1),zw h4 hk (fun b e=>(dX b e).2.2),h5,fun x hx=>⟨zw (h6 x hx).1 hk (fun b e hb=>h.ut b ((h6 x hx).2 b e) (h8 b hb)),(h6 x hx).2⟩,cU,fun b hb=>.inr hb,fun b hb=>?_,fun b hb=>?_,fun e=>?_⟩,.inl ⟨h.lb,eS⟩,KS h.size hk.1,fun b hb=>?_,fun b hb=>K0 (h.tB b hb) hk.1,fun b hb e=>?_⟩⟩
 ·refine⟨.inl ⟨(h9 b hb).1,(h9 b hb).2.2.1⟩,(h9 b hb).2.1,fun e=>?_,(h9 b hb).2.2.2⟩;rcases hF b e with e|e
  ·exact(h9 b hb).2.2.1 e
  have:=(h3.blk_lt hb).2;omega
 ·refine⟨.inl ⟨(dX b hb).1,(dX b hb).2.2⟩,(dX b hb).2.1,fun e=>?_⟩;rcases hF b e with e|e
  ·exact(dX b hb).2.2 e
  have:=(h4.blk_lt hb).2;omega
 ·rcases hF lb e with e|e
  ·exact eS e
  have:=h.blt;omega
 ·have hs:=h.size;have hkz:=hk.1;rcases hb with hb|hb
  ·exact⟨(h.uB b hb.1).1,K0 (h.uB b hb.1).2 hk.1⟩
  refine⟨?_,cU.lt b hb⟩;rcases hF b hb with e|e
  ·exact(h.uB b (h8 b e)).1
  omega
 rcases e with e|e
 ·exact h.ut b hb e.1
 rcases hF b e with e|e
 ·exact h.ut b hb (h8 b e)
 have:=h.tB b hb;omega
theorem LkM.tells(h:LkM w B U T lb n RA rn rc L):∃TT tc th cs,Box w lb 61 cs∧cs.size=8∧cs[7]?=some (.slice TT L.told.length tc)∧OwnT w B TT L.told.length tc th∧(∀b,blk TT=some b→U b∧b≠lb)∧
  ∀(a:As) (A:Option Addr) (c:Nat) w2 w3 py CX,OwnG w 0 A a.segs.length c a.segs→(∀b,blk A=some b→T b)→OwnT w2 B py (L.told.length+1) CX (th++ [⟨a,A,c⟩])→w.grownBy w2 (blk TT)→(blk py=blk TT∨∀k,blk py=some k→w.heap.size≤k)→
   Box w3 lb 61 (cs.setIfInBounds 7 (.slice py (L.told.length+1) CX))→w2.grownBy w3 (some lb)→LStep w B U T lb n RA rn rc {L with told:=L.told++ [a]} w3:=by
 obtain⟨gp,p,SA,sc,TT,tc,th,F,h1,h2,h3,h4,h5,h6,h7,h8,h9,dX,eS⟩:=h.ex;refine⟨TT,tc,th,_,h1,rfl,rfl,h4,fun b e=>⟨(dX b e).1,(dX b e).2.1⟩,fun a A c w2 w3 py CX hG hA hO Hm FA bX H6=>?_⟩;have Bk:KeepF (fun k=>blk TT=some k) w w2:=.grown Hm (fun g hg=>.inl hg);have fo:KeepF (fun k=>k=lb) w2 w3:=.grown H6 (fun g hg=>.inl Hq);have hk:KeepF (fun k=>k=lb∨blk TT=some k) w w3:=(Bk.weak (fun g hg=>.inl (.inr hg))).trans (fo.weak (G:=fun k=>k=lb∨blk TT=some k) (fun g hg=>.inl (.inl hg))) (fun g hg=>.inl hg)
 have eE:∀b,blk py=some b→b≠lb:=fun b e e2=>by
  rcases FA with e3|e3
  ·rw[e3]at e;exact(dX b e).2.1 e2
  have:=e3 b e;have:=h.blt;omega
 have eM:=zw hO fo eE;have hU:∀k,k=lb∨blk TT=some k→U k:=fun k e=>by rcases e with rfl|e;exact h.lb;exact(dX k e).1
 have hT:∀k,T k→¬(k=lb∨blk TT=some k):=fun k hk e=>h.ut k hk (hU k e)
 have ef:=hk.1;refine⟨fun k=>U k∨(w.heap.size≤k∧blk py=some k),T,⟨⟨gp,p,SA,sc,py,CX,th++ [⟨a,A,c⟩],F,?_,h2,?_,?_,?_,?_,?_,fun b hb=>.inl (h8 b hb),fun b hb=>?_,fun b hb=>?_,eS⟩,.inl h.lb,KS h.size ef,fun b hb=>?_,fun b hb=>K0 (h.tB b hb) ef,fun b hb e=>?_⟩,hk.weak (fun g hg=>.inl (hU g hg)),fun k hk=>by rcases hk with e|e;exact .inl e;exact .inr e.1,fun k hk=>.inl hk⟩
 ·rw[q5];exact bX
 ·exact zw h3 hk (fun b hb e=>by rcases e with e|e;exact(h9 b hb).2.1 e;exact(h9 b hb).2.2.2 e)
 ·rw[q5];exact eM
 ·rw[List.map_append,←h5];rfl
 ·intro x hx;rcases List.mem_append.1 hx with hx|hx
  ·exact⟨zw (h6 x hx).1 hk (fun b e=>hT _ ((h6 x hx).2 b e)),(h6 x hx).2⟩
  obtain rfl:x=⟨a,A,c⟩:=by simpa using hx
  exact⟨zw hG hk (fun b e=>hT _ (hA b e)),hA⟩
 ·exact h7.keep (fun k hF=>hk.2.1 k (h7.lt k hF) (fun e=>by rcases e with e|e;exact eS (e▸hF);exact(dX k e).2.2 hF)) hk.1
 ·refine⟨.inl (h9 b hb).1,(h9 b hb).2.1,(h9 b hb).2.2.1,fun e=>?_⟩;rcases FA with e2|e2
  ·rw[e2]at e;exact(h9 b hb).2.2.2 e
  have:=e2 b e;have:=(h3.blk_lt hb).2;omega
 ·rcases FA with e2|e2
  ·rw[e2]at hb;exact⟨.inl (dX b hb).1,(dX b hb).2⟩
  exact⟨.inr ⟨e2 b hb,hb⟩,eE b hb,fun hF=>by have:=h7.lt b hF;have:=e2 b hb;omega⟩
 ·rcases hb with hb|hb
  ·exact⟨(h.uB b hb).1,K0 (h.uB b hb).2 ef⟩
  exact eM.blk_lt hb.2
 rcases e with e|e
 ·exact h.ut b hb e
 have:=h.tB b hb;omega
end
end
def yp:List UInt8:=[102,114,97,109,101]
def LS.take(ctl:LS→As→LS)(L:LS)(f:Fr):LS:=
 if L.sz<f.load.length+12∨L.ch<f.chan then L.close 501 yp
 else match L.g.out f with
  | none=>if L.g.err f=0 then{L with g:=L.g.next f}else LS.close {L with g:=L.g.next f} 501 yp
  | some a=>if a.chan=0 then ctl {L with g:=L.g.next f} a else if L.st=4 then{L with g:=L.g.next f,told:=L.told++ [a]}else LS.close {L with g:=L.g.next f} 501 yp
theorem LkM.mono{m:Nat}{L:LS}(h:LkM w B U T lb n RA rn rc L)(hn:n≤m):LkM w B U T lb m RA rn rc L where
 ex:=by
  obtain⟨gp,p,SA,sc,TT,tc,th,F,k1,k2,k3,k4,k5,k6,k7,k8⟩:=h.ex;exact⟨gp,p,SA,sc,TT,tc,th,F,k1,k2,k3,k4,k5,k6,k7.mono hn,k8⟩
 lb:=h.lb
 size:=h.size
 uB:=h.uB
 tB:=h.tB
 ut:=h.ut
def LTakeR(w:World)(B:Nat)(U T:Nat→Prop)(lb n:Nat)(RA:Option Addr)(rn rc:Nat)(L:LS)(f:Fr)(o:Option Nat)(cs:Array Value)(s5 s6:Value)(wx:World):Prop:=
 ∃U' T',(∀b,o=some b→¬U' b)∧LkM wx B U' T' lb (n+1) RA rn rc {L with g:=L.g.next f}∧KeepF U w wx∧(∀k,U' k→U k∨w.heap.size≤k)∧(∀k,T' k→T k∨U k∨w.heap.size≤k)∧
  ((L.g.out f=none∧s5= .bool false∧s6= .int .i64 (L.g.err f:Int)∧cs=asZ)∨
   (∃a A c,L.g.out f=some a∧s5= .bool true∧s6= .int .i64 0∧cs=asV a.chan a.track A a.segs.length c∧OwnG wx 0 A a.segs.length c a.segs∧∀b,blk A=some b→T' b))
theorem LTakeR.done{v vz v' w6:World}{L:LS}{f:Fr}{cs:Array Value}{s5 s6:Value}{G:Nat→Prop}{o:Option Nat}(h:LTakeR vz B U T lb n RA rn rc L f o cs s5 s6 v')(hU:∀k,U k→k<v.heap.size)(hT:∀k,T k→k<v.heap.size)(hB:Below v.heap.size v vz)(hk:KeepF G v' w6)
  (hG:∀k,G k→v.heap.size≤k∧(k<vz.heap.size∨v'.heap.size≤k)) (tb:Nat) (ht:v.heap.size≤tb∧(tb<vz.heap.size∨v'.heap.size≤tb)):LTakeR v B U T lb n RA rn rc L f (some tb) cs s5 s6 w6:=by
 obtain⟨U',T',_,h1,h2,h3,h4,h5⟩:=h;have hz:=hB.size;have ep:=h2.1
 have gU:∀k,U' k→¬G k:=fun k hk' hg=>by
  have:=hG k hg;have:=(h1.uB k hk').2;rcases h3 k hk' with e|e
  ·have:=hU k e;omega
  omega
 have gT:∀k,T' k→¬G k:=fun k hk' hg=>by
  have:=hG k hg;have:=h1.tB k hk';rcases h4 k hk' with e|e|e
  ·have:=hT k e;omega
  ·have:=hU k e;omega
  omega
 have gt:¬U' tb:=fun e=>by
  have:=(h1.uB tb e).2;rcases h3 tb e with e|e
  ·have:=hU tb e;omega
  omega
 refine⟨U',T',fun b e=>by injection e with e;rw[←e];exact gt,h1.keep hk gU gT,((KeepF.below hB).trans h2 (fun g hg=>.inl hg)).trans hk (fun g hg=>.inr (hG g hg).1),fun k hk'=>?_,fun k hk'=>?_,?_⟩
 ·rcases h3 k hk' with e|e
  ·exact .inl e
  exact .inr Wq
 ·rcases h4 k hk' with e|e|e
  ·exact .inl e
  ·exact .inr (.inl e)
  exact .inr (.inr Wq)
 rcases h5 with h5|⟨a,A,c,e1,e2,e3,e4,e5,e6⟩
 ·exact .inl h5
 exact .inr ⟨a,A,c,e1,e2,e3,e4,zw e5 hk (fun b hb=>gT b (e6 b hb)),e6⟩
theorem Xz{v v':World}{gp:Nat}{L:LS}{f:Fr}{F:Nat→Prop}{e:Ending}(h:LkM v B U T lb n RA rn rc L)(tI:∀b,F b→U b)
  (iH:∀w' F' g',(∀k,F' k→F k∨v.heap.size≤k)→Ga w' F' gp (n+1) g'→KeepF F v w'→LkM w' B (fun k=>(U k∧¬F k)∨F' k) T lb (n+1) RA rn rc {L with g:=g'})
  (hR:Ks v F gp n L.g f e v'):∃cs s5 s6,e= .returned (.tuple #[.agg cs,s5,s6])∧LTakeR v B U T lb n RA rn rc L f none cs s5 s6 v':=by
 obtain⟨F',Nc,cU,hk,fY⟩:=hR;have hM:=iH v' F' _ Nc cU hk;have Mf:KeepF U v v':=hk.weak (fun g hg=>.inl (tI g hg))
 have nT:∀k,(U k∧¬F k)∨F' k→U k∨v.heap.size≤k:=fun k e=>by
  rcases e with e|e
  ·exact .inl e.1
  rcases Nc k e with e|e
  ·exact .inl (tI k e)
  exact .inr e
 rcases fY with⟨ho,rfl⟩|⟨a,A,c,ho,rfl,hG,hA⟩
 ·exact⟨_,_,_,rfl,_,T,(fun b e=>by cases e),hM,Mf,nT,fun k e=>.inl e,.inl ⟨ho,rfl,rfl,rfl⟩⟩
 refine⟨_,_,_,rfl,_,fun k=>T k∨blk A=some k,(fun b e=>by cases e),hM.more (fun k e=>.inl e) (fun k e=>?_),Mf,nT,fun k e=>?_,.inr ⟨a,A,c,ho,rfl,rfl,rfl,hG,fun b e=>.inr e⟩⟩
 ·rcases e with e|e
  ·refine⟨hM.tB k e,hM.ut k e⟩
  refine⟨(hG.blk_lt e).2,fun e2=>?_⟩;have hh:=hA k e;rcases e2 with e2|e2
  ·rcases hh.2 with e3|e3
   ·exact e2.2 e3
   have:=(h.uB k e2.1).2;omega
  exact hh.1 e2
 rcases e with e|e
 ·exact .inl e
 rcases(hA k e).2 with e3|e3
 ·exact .inr (.inl (tI k e3))
 exact .inr (.inr e3)
theorem ku{L:LS}{f:Fr}{cs:Array Value}{s5 s6:Value}{wx:World}{o:Option Nat}(h:LTakeR w B U T lb n RA rn rc L f o cs s5 s6 wx):∃x0 x1 x2,cs= #[x0,x1,x2]∧x0.oneCell'=true∧x1.oneCell'=true∧x2.oneCell'=true:=by
 obtain⟨U',T',_,_,_,_,_,h5⟩:=h;rcases h5 with⟨_,_,_,rfl⟩|⟨a,A,c,_,_,_,rfl,_⟩
 ·exact⟨_,_,_,rfl,rfl,rfl,rfl⟩
 exact⟨_,_,_,rfl,rfl,rfl,rfl⟩
theorem Vi(ctl:LS→As→LS)(f:Fr){L:LS}(h:LkM w B U T lb n RA rn rc L)(hi:L.g.Inv)(hf:f.wf)(hl:f.load.length≤1000000)(hn:n<1000000000)(he:MEnv w)(fL:0<B)(Bw:L.sz≤1000000)(gD:L.ch<65536)(hs:L.sent.length≤10000000000)(uh:L.told.length≤1000000000)
  (B5:∀a A c W U' T',L.g.out f=some a→a.chan=0→LkM W B U' T' lb (n+1) RA rn rc {L with g:=L.g.next f}→OwnG W 0 A a.segs.length c a.segs→(∀b,blk A=some b→T' b)→MEnv W→Below B w W→
   Calls prog 56 #[.pointer (some ⟨lb,0,none⟩),.agg (asV a.chan a.track A a.segs.length c)] W fun e w'=>e= .returned (.tuple #[])∧LStep W B U' T' lb (n+1) RA rn rc (ctl {L with g:=L.g.next f} a) w'):
  Calls prog 39 #[.pointer (some ⟨lb,0,none⟩),.agg (frV f)] w fun e w'=>e= .returned (.tuple #[])∧LStep w B U T lb (n+1) RA rn rc (L.take ctl f) w':=by
 have AS:=h.blt;obtain⟨fb,w0,ue,px,ie,Hy⟩:=zq w (frV f) 97;have nw:w.heap.size≤fb:=by omega
 have h0:=h.below Hy;have oP:=he.on Hy;have hfc:f.chan<65536:=hf.2.2;have c3:=h0.c3;have c4:=h0.c4;have dD:=zi f.load;unfold frV at px ie ⊢;have f6:=ie.c6;have f7:=ie.c7;go_enter func39,ntmps39;go_upto_region 1 with fail;rw[←ue,←px];clear ue px;by_cases q1:L.sz<f.load.length+12
 ·exact Z21_
 have d1:decide ((L.sz:Int)<(f.load.length:Int)+12)=false:=by simp;omega
 by_cases q2:L.ch<f.chan
 ·have qq9x:=();exact Z21_
 have d2:¬(L.ch:Int)<(f.chan:Int):=by omega
 have HR:=Q1 (show L.take ctl f=match L.g.out f with
  | none=>if L.g.err f=0 then{L with g:=L.g.next f}else LS.close {L with g:=L.g.next f} 501 yp
  | some a=>if a.chan=0 then ctl {L with g:=L.g.next f} a else if L.st=4 then{L with g:=L.g.next f,told:=L.told++ [a]}else LS.close {L with g:=L.g.next f} 501 yp by unfold LS.take;rw[if_neg Wq])
 try simp only[Act.put]
 go_quiet(fail);clear c3 c4 f6 f7 d1 d2;have h1:=h0.below (za (Q2 _ _) nq);have eD:=ie.below (za (Q2 _ _) nq);have Ha:=za Hy nq;have EV:=oP.on (za (Q2 w0.heap.size w0) nq);clear h0 oP ie dD;go_upto_region 3 with fail;have tC:lb≠fb:=by omega
 have Rj:∀k,U k→k≠fb:=fun k hk=>by have:=(h.uB k hk).2;omega
 clear Hy nw;generalize w0.drewN nq=wq at*;go_cut [4,5,6]from 29 to 38 (fun s4 s5 s6 wx=>∃tb cs,s4= .pointer (some ⟨tb,0,none⟩)∧Box wx tb 42 cs∧LTakeR wq B U T lb n RA rn rc L f (some tb) cs s5 s6 wx)
 case first=>
  have Dh:∀k,U k→k<wq.heap.size:=fun k hk=>(h1.uB k hk).2
  have Mv:∀k,T k→k<wq.heap.size:=h1.tB
  have B0:Below wq.heap.size wq wq.drew:=za (Q2 _ wq) 1;have h2:=h1.below B0;obtain⟨gp,F,dK,cU,tI,eB,iH⟩:=h2.gath;have FV:¬F fb:=fun e=>Rj _ (tI _ e) rfl
  refine zt (fun W:World=>W.cell? ⟨lb,2,none⟩=some (.pointer (some ⟨gp,0,none⟩))∧Box W fb 97 #[.bool f.first,.bool f.last,.bool f.beg,.bool f.fin,.int .u8 (f.ty:Int),.int .u8 (f.track:Int),.int .u16 (f.chan:Int),.string (str f.load)]) Wj ?_;have hS:wq.drew.cell? ⟨lb,2,none⟩=some (.pointer (some ⟨gp,0,none⟩))∧Box wq.drew fb 97 #[.bool f.first,.bool f.last,.bool f.beg,.bool f.fin,.int .u8 (f.ty:Int),.int .u8 (f.track:Int),.int .u16 (f.chan:Int),.string (str f.load)]:=⟨dK,eD.below B0⟩;have AJ:=eD.lt;clear B5 h h1 eD;refine rg_t 0 hS ?_;simp only[q6,Vy,Act.put,q7,q8,q9];refine rg_t 1 hS ?_;simp only[g_S];refine rg_t 2 hS ?_;simp only[g_S];refine ze 3 (v:=?_) rfl Wj Wj Wj hS rfl ?_ ?_;rotate_left
  ·intro wS He;have k0:=He.1;go_simp;(with_reducible rfl)
  simp only[g_S];refine ze 4 (v:=?_) rfl Wj Wj Wj hS rfl ?_ ?_;rotate_left
  ·exact Z37_
  simp only[g_S];refine xP 5 10 rfl rfl Wj rfl rfl (fun K hK=>?_) (fun K hK=>?_)
  ·go_simp;refine(Xa F gp n L.g f wq.drew cU hi hf Wq hn).mono ?_;rintro e v1 hR;have rA:=hR.choose_spec.2.2.1;obtain⟨cs,s5,s6,rfl,sM⟩:=Xz h2 tI iH hR;obtain⟨x0,x1,x2,rfl,y0,y1,y2⟩:=ku sM;have BG:v1.cell? ⟨lb,2,none⟩=some (.pointer (some ⟨gp,0,none⟩))∧Box v1 fb 97 #[.bool f.first,.bool f.last,.bool f.beg,.bool f.fin,.int .u8 (f.ty:Int),.int .u8 (f.track:Int),.int .u16 (f.chan:Int),.string (str f.load)]:=⟨by have hx:=rA.2.1 lb h2.blt eB;unfold World.cell? at dK ⊢;rw[hx];exact dK,zU hS.2 rA FV⟩;clear hR iH cU h2 rA;refine hK _ _ BG ?_;clear hK K;refine rg_t 6 BG ?_;simp only[g_S];refine rg_t 7 BG ?_;simp only[g_S];refine rg_t 8 BG ?_;simp only[g_S];refine rg_t 9 BG ?_;simp only[g_S];have hz:=Box.new v1 #[.int .u16 0,.int .u8 0,.slice none 0 0] 42;(obtain⟨v2,ff⟩:∃v,v=v1.alloc (.cells #[.int .u16 0,.int .u8 0,.slice none 0 0] 42):=⟨_,rfl⟩);(have Hc:Below v1.heap.size v1 v2:=by rw[ff];exact(Q2 _ _).alloc (KL _) _);have BI:v2.cell? ⟨lb,2,none⟩=some (.pointer (some ⟨gp,0,none⟩))∧Box v2 fb 97 #[.bool f.first,.bool f.last,.bool f.beg,.bool f.fin,.int .u8 (f.ty:Int),.int .u8 (f.track:Int),.int .u16 (f.chan:Int),.string (str f.load)]:=⟨(Hc.cell (p:=⟨lb,2,none⟩) (K1 _ _ BG.1)).trans BG.1,BG.2.below Hc⟩;rw[←ff]at hz;refine zj 10 rfl Wj rfl (fun K hK=>?_);go_simp;rw[←ff];refine hK _ _ BI ?_;clear hK K;(obtain⟨tb,gN⟩:∃b,b=v1.heap.size:=⟨_,rfl⟩);rw[←gN]at hz;rw[←gN];refine zj 11 rfl Wj rfl (fun K hK=>?_);refine zK (v:=.agg #[x0,x1,x2]) (vs:=[x0,x1,x2]) rfl rfl rfl hz rfl Wj Wz (by simp[y0,y1,y2]) #[x0,x1,x2] Wz ?_;intro v3 bX H6 fR;clear fR;have Hh:Below v1.heap.size v1 v3:=Hc.grown H6 Hc.size (fun g e=>by injection e with e;omega);have dN:v3.cell? ⟨lb,2,none⟩=some (.pointer (some ⟨gp,0,none⟩))∧Box v3 fb 97 #[.bool f.first,.bool f.last,.bool f.beg,.bool f.fin,.int .u8 (f.ty:Int),.int .u8 (f.track:Int),.int .u16 (f.chan:Int),.string (str f.load)]:=⟨(Hh.cell (p:=⟨lb,2,none⟩) (K1 _ _ BG.1)).trans BG.1,BG.2.below Hh⟩;refine hK _ _ dN ?_;clear hK K;refine zj 12 rfl Wj rfl (fun K hK=>?_);go_simp;refine hK _ _ dN ?_;clear hK K;refine zj 13 rfl Wj rfl (fun K hK=>?_);go_simp;refine hK _ _ dN ?_;clear hK K;refine zz Wj ?_;go_wp2_with fail;go_meet;exact⟨tb,#[x0,x1,x2],by rw[gN],bX,sM.done Dh Mv B0 (KeepF.below (F:=fun _=>False) Hh) (fun k e=>e.elim) tb ⟨by have:=sM.choose_spec.choose_spec.2.2.1.1;have:=B0.size;omega,.inr Wq⟩⟩
  clear iH cU;have hz:=Box.new wq.drew #[.int .u16 0,.int .u8 0,.slice none 0 0] 42;obtain⟨v0,F8⟩:∃v,v=wq.drew.alloc (.cells #[.int .u16 0,.int .u8 0,.slice none 0 0] 42):=⟨_,rfl⟩
  have Hy:Below wq.drew.heap.size wq.drew v0:=by rw[F8];exact(Q2 _ _).alloc (KL _) _
  rw[←F8]at hz;have OT:v0.cell? ⟨lb,2,none⟩=some (.pointer (some ⟨gp,0,none⟩))∧Box v0 fb 97 #[.bool f.first,.bool f.last,.bool f.beg,.bool f.fin,.int .u8 (f.ty:Int),.int .u8 (f.track:Int),.int .u16 (f.chan:Int),.string (str f.load)]:=⟨(Hy.cell (p:=⟨lb,2,none⟩) (K1 _ _ hS.1)).trans hS.1,hS.2.below Hy⟩;obtain⟨tb,gN⟩:∃b,b=wq.drew.heap.size:=⟨_,rfl⟩
  rw[←gN]at hz;have UY:tb=wq.heap.size:=gN;go_simp;rw[show(wq.alloc (.cells #[.int .u16 0,.int .u8 0,.slice none 0 0] 42)).drew=v0 from F8.symm,←UY];refine hK _ _ OT ?_;clear hK K;have dL:Below wq.heap.size wq v0:=B0.trans (Hy.mono B0.size);have TZ:=hz.lt;have h3:=h2.below Hy;have Wp:wq.heap.size≤tb:=by omega
  have hag:tb≤wq.heap.size:=by omega
  clear UY;clear F8 gN h2 tI eB FV F;obtain⟨gq,F,Cb,cU,tI,eB,iH⟩:=h3.gath;obtain rfl:gp=gq:=by have e:=OT.1.symm.trans Cb;injection e with e;injection e with e;injection e with e;injection e
  have FV:¬F fb:=fun e=>Rj _ (tI _ e) rfl
  have PI:¬F tb:=fun e=>by have:=Dh _ (tI _ e);omega
  refine zj 5 rfl Wj rfl (fun K hK=>?_);go_simp;refine(Xa F gp n L.g f v0 cU hi hf Wq hn).mono ?_;rintro e v1 hR;have rA:=hR.choose_spec.2.2.1;obtain⟨cs,s5,s6,rfl,sM⟩:=Xz h3 tI iH hR;obtain⟨x0,x1,x2,rfl,y0,y1,y2⟩:=ku sM;have BG:v1.cell? ⟨lb,2,none⟩=some (.pointer (some ⟨gp,0,none⟩))∧Box v1 fb 97 #[.bool f.first,.bool f.last,.bool f.beg,.bool f.fin,.int .u8 (f.ty:Int),.int .u8 (f.track:Int),.int .u16 (f.chan:Int),.string (str f.load)]:=⟨by have hx:=rA.2.1 lb h3.blt eB;unfold World.cell? at Cb ⊢;rw[hx];exact Cb,zU OT.2 rA FV⟩;have cy:=zU hz rA PI;clear hR iH cU rA hz;refine hK _ _ BG ?_;clear hK K;refine rg_t 6 BG ?_;simp only[g_S];refine rg_t 7 BG ?_;simp only[g_S];refine rg_t 8 BG ?_;simp only[g_S];refine rg_t 9 BG ?_;simp only[g_S];refine zj 11 rfl Wj rfl (fun K hK=>?_);refine zK (v:=.agg #[x0,x1,x2]) (vs:=[x0,x1,x2]) rfl rfl rfl cy rfl Wj Wz (by simp[y0,y1,y2]) #[x0,x1,x2] Wz ?_;intro v3 bX H6 fR;clear fR;have hlt:lb≠tb:=by have:=h3.blt;have:=Dh _ h3.lb;omega
  have AP:fb≠tb:=by have:=AJ;omega
  have fo:KeepF (fun k=>k=tb) v1 v3:=.grown H6 (fun g e=>.inl uQ);have dN:v3.cell? ⟨lb,2,none⟩=some (.pointer (some ⟨gp,0,none⟩))∧Box v3 fb 97 #[.bool f.first,.bool f.last,.bool f.beg,.bool f.fin,.int .u8 (f.ty:Int),.int .u8 (f.track:Int),.int .u16 (f.chan:Int),.string (str f.load)]:=⟨by have hx:=fo.2.1 lb (K1 _ _ BG.1) hlt;have hc:=BG.1;unfold World.cell? at hc ⊢;rw[hx];exact hc,zU BG.2 fo AP⟩;refine hK _ _ dN ?_;clear hK K;refine zj 12 rfl Wj rfl (fun K hK=>?_);go_simp;refine hK _ _ dN ?_;clear hK K;refine zj 13 rfl Wj rfl (fun K hK=>?_);go_simp;refine hK _ _ dN ?_;clear hK K;refine zz Wj ?_;go_wp2_with fail;go_meet;exact⟨tb,#[x0,x1,x2],rfl,bX,sM.done Dh Mv dL fo (fun k e=>by subst e;exact⟨by omega,.inl TZ⟩) tb ⟨by omega,.inl TZ⟩⟩
 obtain⟨tb,cs,rfl,ii,U',T',G7,hM,FO,nT,sE,fY⟩:=hcut;have cy:=Ha.size;have hK:KeepF U w wc:=(KeepF.below Ha).trans FO (fun g hg=>.inl hg);have ww:∀k,U' k→U k∨w.heap.size≤k:=fun k e=>(nT k e).imp id zAg
 have wT:∀k,T' k→T k∨U k∨w.heap.size≤k:=fun k e=>(sE k e).imp id (fun e=>e.imp id zAg)
 have DU:¬U 0:=fun e=>by have:=(h.uB _ e).1;omega
 have M3:=EV.onK FO DU;have iN:∀{w9:World} {M:LS},LStep wc B U' T' lb (n+1) RA rn rc M w9→LStep w B U T lb (n+1) RA rn rc M w9:=fun bV=>LStep.of hK ww wT bV
 have k0:=hM.c0;have o8:Below B w wc:=(Ha.mono h.size).trans (FO.toBelow (KS h.size cy) (fun g hg=>(h.uB g hg).1));clear FO nT sE cy hK ww wT DU EV Ha h1 eD h Rj tC;rcases fY with⟨ho,rfl,rfl,rfl⟩|⟨a,A,c,ho,rfl,rfl,rfl,hG,hA⟩
 ·rw[ho]at HR;have HQ:=Q1 HR.out;clear HR B5 k0 ii;obtain⟨er,GM⟩:∃er,er=L.g.err f:=⟨_,rfl⟩
  rw[←GM]at HQ ⊢;by_cases h0:er=0
  ·subst h0;clear GM;go_wp2_with(with_reducible refine h_A ?_);go_end0;exact⟨rfl,by rw[HQ.out];exact iN (LStep.refl hM)⟩
  have qqak:=();exact Z24_
 rw[ho]at HR;have HQ:=Q1 HR.out;clear HR;unfold asV at ii;have b0:=ii.c0;have b1:=ii.c1;have b2:=ii.c2;by_cases h0:a.chan=0
 ·have hc:=B5 a A c wc U' T' ho h0 hM hG hA M3 o8;have ib:=Q1 (HQ.out.trans (if_pos h0));unfold asV at hc;clear HQ B5 ho hM hG hA M3 k0;have h1:(a.chan:Int)=0:=by omega
  rw[h1]at hc b0;go_wp2_with(with_reducible refine h_A ?_);refine hc.mono ?_;rintro e w9 ⟨rfl,bV⟩;clear hc;go_wp2_with(with_reducible refine h_A ?_);go_end0;exact⟨rfl,by rw[ib.out];exact iN bV⟩
 have ib:=Q1 (HQ.out.trans (if_neg h0));have h1:¬(a.chan:Int)=0:=by omega
 clear HQ B5 ho h0;by_cases h4:L.st=4
 ·have N6:=Q1 (ib.out.trans (if_pos h4));have k4:((L.st:Nat):Int)=4:=by omega
  change wc.cell? ⟨lb,0,none⟩=some (.int .u8 (L.st:Int))at k0;rw[k4]at k0;clear ib h4 k4;go_upto_region 11 with fail;have gN:¬U' tb:=G7 tb rfl;have B0:Below wc.heap.size wc wc.drew:=za (Q2 _ wc) 1;have Dd:=hM.below B0;have Tr:OwnG wc.drew 0 A a.segs.length c a.segs:=zh hG B0;have im:=ii.below B0;clear b0 b1 b2 k0 ii hG hM M3 G7 fL;obtain⟨TT,tc,th,cs,NM,fX,h7,hO,Eg,dR⟩:=Dd.tells;have ii:=im.lt;have hlt:lb≠tb:=fun e=>gN (e▸Dd.lb)
  have Nv:∀b,blk TT=some b→b≠tb:=fun b e e2=>gN (e2▸(Eg b e).1)
  have iT:=Dd.size;clear Dd;have k7:=NM.cell h7;have k0:=im.c0;have k1:=im.c1;have k2:=im.c2;clear k0 k1 k2;refine zt (fun W:World=>Box W tb 42 #[.int .u16 (a.chan:Int),.int .u8 (a.track:Int),.slice A a.segs.length c]) Wj ?_;have hS:=im;generalize wc.drew=wd at*;refine rg_t 0 hS ?_;simp only[q6,Vy,Act.put,q7,q8,q9];refine rg_t 1 hS ?_;simp only[g_S];refine rg_t 2 hS ?_;simp only[g_S];refine rg_t 3 hS ?_;simp only[g_S];refine ze 5 (v:=?_) rfl Wj Wj Wj hS rfl ?_ ?_;rotate_left
  ·intro wS He;have k0:=He.cell (j:=0) rfl;have k1:=He.cell (j:=1) rfl;have k2:=He.cell (j:=2) rfl;go_simp;(with_reducible rfl)
  simp only[g_S];refine xP 4 6 rfl rfl Wj rfl rfl (fun K hK=>?_) (fun K hK=>?_)
  ·have qq92:=();exact Z1q_
  exact Z1q_
 have qqal:=();exact Z24_
def LS.goes(ctl:LS→As→LS):LS→List Fr→LS
 | L,[]=>L
 | L,f::l=>if L.st=5 then L else LS.goes ctl (L.take ctl f) l
def LS.frames(ctl:LS→As→LS)(L:LS)(l:List Fr)(e:Nat):LS:=
 if e≠0∧(L.goes ctl l).st≠5 then(L.goes ctl l).close 501 yp else L.goes ctl l
theorem LS.goes_closed{ctl:LS→As→LS}{L:LS}(h:L.st=5):∀l,L.goes ctl l=L
 | []=>rfl
 | _::_=>by unfold LS.goes;rw[if_pos h]
theorem LkM.setRest{L:LS}(h:LkM w B U T lb n RA rn rc L)(A:Option Addr)(m c:Nat):LkM (w.setCell ⟨lb,1,none⟩ (.slice A m c)) B U T lb n A m c L:=by
 have hg:=yC w lb 1 (.slice A m c);have hk:KeepF (fun k=>k=lb) w (w.setCell ⟨lb,1,none⟩ (.slice A m c)):=.grown hg (fun g e=>.inl uQ);obtain⟨gp,p,SA,sc,TT,tc,th,F,h1,h2,h3,h4,h5,h6,h7,h8,h9,dX,eS⟩:=h.ex
 exact⟨⟨gp,p,SA,sc,TT,tc,th,F,xW h1 _,h2,zw h3 hk (fun b e=>(h9 b e).2.1),zw h4 hk (fun b e=>(dX b e).2.1),h5,fun x hx=>⟨zw (h6 x hx).1 hk (fun b e e2=>h.ut b ((h6 x hx).2 b e) (e2▸h.lb)),(h6 x hx).2⟩,
   h7.keep (fun k hF=>hk.2.1 k (h7.lt k hF) (fun e=>eS (e▸hF))) hk.1,h8,h9,dX,eS⟩,h.lb,KS h.size hk.1,fun b hb=>⟨(h.uB b hb).1,K0 (h.uB b hb).2 hk.1⟩,fun b hb=>K0 (h.tB b hb) hk.1,h.ut⟩
theorem LkM.thaw{L:LS}(h:LkM w B U T lb n RA rn rc L)(j:Nat):w.frozen? ⟨lb,j,none⟩=false:=by
 obtain⟨gp,p,SA,sc,TT,tc,th,F,h1,_⟩:=h.ex;exact h1.thaw j
theorem qH{w':World}{size:Nat}{A:Option Addr}{xs:List Value}{F:Nat→Prop}(h:Rd w B size A n c xs)(hk:KeepF F w w')(hB:B≤w.heap.size)(hF:∀g,blk A=some g→¬F g):Rd w' B size A n c xs:=
 ⟨h.len,h.cap,h.max,fun hn=>by
  obtain⟨b,off,e,hb,hx⟩:=h.at_ hn;refine⟨b,off,e,hb,fun j u hj=>?_⟩;have h0:=hx j u hj;have h1:=hk.2.1 b Wq (hF b zAi);unfold World.cell? at h0 ⊢;rw[h1]
  exact h0⟩
theorem LS.goes_cons(ctl:LS→As→LS)(L:LS)(f:Fr)(l:List Fr)(h:¬L.st=5):L.goes ctl (f::l)=(L.take ctl f).goes ctl l:=by
 rw[LS.goes,if_neg h]
theorem LS.goes_append(ctl:LS→As→LS):∀(l m:List Fr) (L:LS),L.goes ctl (l++m)=(L.goes ctl l).goes ctl m
 | [],_,_=>rfl
 | f::l,m,L=>by
  by_cases h:L.st=5
  ·rw[LS.goes_closed h,LS.goes_closed h,LS.goes_closed h]
  rw[List.cons_append,LS.goes_cons ctl L f _ h,LS.goes_cons ctl L f _ h,LS.goes_append ctl l m]
theorem LS.goes_snoc{ctl:LS→As→LS}{L:LS}{l:List Fr}{i:Nat}(hi:i<l.length)(h:(L.goes ctl (l.take i)).st≠5):L.goes ctl (l.take (i+1))=(L.goes ctl (l.take i)).take ctl l[i]:=by
 rw[List.take_succ_eq_append_getElem hi,LS.goes_append,LS.goes_cons ctl _ _ _ h];rfl
theorem LS.goes_stop{ctl:LS→As→LS}{L:LS}{l:List Fr}{i:Nat}(h:(L.goes ctl (l.take i)).st=5):L.goes ctl l=L.goes ctl (l.take i):=by
 have:=LS.goes_append ctl (l.take i) (l.drop i) L;rw[List.take_append_drop,LS.goes_closed h]at this;exact this
theorem zcq{rb off u:Nat}{b:List UInt8}(h:RdB w B (some ⟨rb,off,none⟩) n c b)(hu:u≤n):RdB w B (some ⟨rb,off+u,none⟩) (n-u) (n-u) (b.drop u):=
 ⟨by have:=h.length;simp;omega,KL _,by have:=h.cap;have:=h.max;omega,fun hn=>by
  obtain⟨b1,o1,e,hb,hx⟩:=Rd.at_ h Wq;injection e with e
  injection e with e1 e2 _
  subst e1 e2;refine⟨rb,off+u,rfl,hb,fun j v hj=>?_⟩;rw[List.map_drop,List.getElem?_drop]at hj;have:=hx (u+j) v hj
  rwa[←Nat.add_assoc]at this⟩
theorem LStep.mono{w':World}{m:Nat}{L:LS}(h:LStep w B U T lb n RA rn rc L w')(hn:n≤m):LStep w B U T lb m RA rn rc L w':=by
 obtain⟨U',T',h1,h2⟩:=h;exact⟨U',T',h1.mono hn,h2⟩
theorem Qt(ctl:LS→As→LS)(P:Nat→LS→Prop)(b:List UInt8){L:LS}(h:LkM w B U T lb n RA rn rc L)(hr:RdB w w.heap.size RA rn rc b)(UE:∀g,blk RA=some g→¬U g)(hn:rn≤1000000000)
  (hu:(zu b).2.1≤rn) (de:n+(zu b).1.length<1000000000) (he:MEnv w) (fL:0<B)
  (hP:∀k M,P k M→M.g.Inv∧M.sz≤1000000∧M.ch<65536∧M.sent.length≤10000000000∧M.told.length≤1000000000)
  (CT:∀k M f,k<(zu b).1.length→f∈(zu b).1→P k M→P (k+1) (M.take ctl f)) (pD:P 0 L) (nw:∀f∈(zu b).1,f.wf∧f.load.length≤1000000)
  (B5:∀k M f a A c W U' T' m RA' rn' rc',f∈(zu b).1→P k M→M.g.out f=some a→a.chan=0→LkM W B U' T' lb m RA' rn' rc' {M with g:=M.g.next f}→OwnG W 0 A a.segs.length c a.segs→(∀b,blk A=some b→T' b)→MEnv W→Below B w W→
   Calls prog 56 #[.pointer (some ⟨lb,0,none⟩),.agg (asV a.chan a.track A a.segs.length c)] W fun e w'=>e= .returned (.tuple #[])∧LStep W B U' T' lb m RA' rn' rc' (ctl {M with g:=M.g.next f} a) w'):
  Calls prog 26 #[.pointer (some ⟨lb,0,none⟩)] w fun e w'=>e= .returned (.tuple #[])∧∃RA',LStep w B U T lb (n+(zu b).1.length) RA' (rn-(zu b).2.1) (rn-(zu b).2.1) (L.frames ctl (zu b).1 (zu b).2.2) w'∧RdB w' w'.heap.size RA' (rn-(zu b).2.1) (rn-(zu b).2.1) (b.drop (zu b).2.1)∧(blk RA'=blk RA∨blk RA'=none):=by
 have hs:=Ja RA rn rc b w hr hn;have x1:=h.c1;have ns:=hr.cap;have nN:=hr.max;have gZ:rn≤maxLen:=by omega
 generalize(zu b).1=FS at*;generalize(zu b).2.1=u at*;generalize(zu b).2.2=er at*;obtain⟨N,hN⟩:∃N,N=FS.length:=⟨_,rfl⟩
 rw[←hN]at hs de ⊢;have HN:=Q1 hN;clear hN;have DU:¬U 0:=fun e=>by have:=(h.uB _ e).1;omega
 go_enter func26,ntmps26;go_wp2_with(with_reducible refine h_A ?_);refine hs.mono ?_;rintro e w1 ⟨A1,c1,rfl,rT,Ha⟩;have h1:=h.below Ha;have dQ:RdB w1.drew w.heap.size RA rn rc b:=hr.below (za Ha 1);have k1:w1.drew.cell? ⟨lb,1,none⟩=some (.slice RA rn rc):=h1.c1;have F3:w1.drew.frozen? ⟨lb,1,none⟩=false:=h1.thaw 1;have gF:=h1.setRest;have pe:=h.blt;have tk:∀(A:Option Addr) (m c:Nat),KeepF (fun k=>k=lb) w1 (w1.setCell ⟨lb,1,none⟩ (.slice A m c)).drew:=fun A m c=>(KeepF.grown (F:=fun k=>k=lb) (yC w1 lb 1 (.slice A m c)) (fun g e=>.inl uQ)).trans (KeepF.below (F:=fun k=>k=lb) (za (Q2 _ _) 1)) (fun g e=>.inl e)
 have rW:=hr;clear hs x1 hr;go_upto_region 1 with fail;go_cut [2,4]from 16 to 34 (fun s2 s4 wx=>s2= .slice A1 N c1∧s4= .int .i64 (er:Int)∧∃RA',LkM wx B U T lb n RA' (rn-u) (rn-u) L∧KeepF (fun k=>k=lb) w1 wx∧RdB wx wx.heap.size RA' (rn-u) (rn-u) (b.drop u)∧(blk RA'=blk RA∨blk RA'=none))
 case first=>
  by_cases h0:u<rn
  ·obtain⟨rb,off,rfl⟩:∃rb off,RA=some ⟨rb,off,none⟩:=by
    obtain⟨b1,o1,e1,_⟩:=dQ.at_ Wq;exact⟨b1,o1,e1⟩
   have cH:=zcq (u:=u) (rW.below Ha) Wq;go_region
   all_goals
    go_wp2_with fail;go_meet
   all_goals exact⟨rfl,rfl,some ⟨rb,off+u,none⟩,(gF _ _ _).below (za (Q2 _ _) 1),tk _ _ _,Rd.more (qH cH (tk _ _ _) Ha.size (fun g e e2=>UE g e (e2▸h.lb))) (KS Ha.size (tk _ _ _).1),.inl rfl⟩
  obtain rfl:u=rn:=by omega
  go_region
  all_goals
   go_wp2_with fail;go_meet
  all_goals
   simp only[Nat.sub_self];exact⟨trivial,trivial,RA,(gF _ _ _).below (za (Q2 _ _) 1),tk _ _ _,by rw[List.drop_eq_nil_of_le (by have:=rW.length;omega)];exact Rd.nil _ _ _ _ WX _,.inl rfl⟩
 obtain⟨rfl,rfl,RA',hM,tv,iM,dG⟩:=hcut;have cy:=Ha.size;have aa:=h1.blt;have ww:∀k,U k→k<w.heap.size:=fun k e=>(h.uB k e).2
 have TO:∀k,U k→B≤k:=fun k e=>(h.uB k e).1
 have Im:=h.size;have dS:KeepF U w wc:=(KeepF.below Ha).trans (tv.weak (G:=U) (fun g e=>.inl (e▸h.lb))) (fun g e=>.inl e);have iE:OwnF wc w.heap.size A1 N c1 FS:=zw rT tv (fun g e e2=>by have:=(rT.blk_lt e).1;omega);clear tk gF F3 k1 dQ rW tv rT Ha;have sX:=dS.1;have Ff:∀g,blk RA'=some g→¬U g:=fun g e=>by rcases dG with e2|e2;exact UE g (e2▸e);rw[e2]at e;cases e
 clear pe;go_wp2_with(with_reducible refine h_B ?_);go_loopw [37] (fun s wr=>∃i,i≤N∧s= .int .i64 (i:Int)∧LStep wc B U T lb (n+i) RA' (rn-u) (rn-u) (L.goes ctl (FS.take i)) wr∧P i (L.goes ctl (FS.take i))) (fun s _=>N-(RowKit.intOf s).toNat)
 case atStart=>exact⟨0,by omega,rfl,LStep.refl hM,pD⟩
 obtain⟨i,hi,rfl,bV,L4⟩:=hrel;obtain⟨M,Dd⟩:∃M,M=L.goes ctl (FS.take i):=⟨_,rfl⟩
 rw[←Dd]at bV L4;have HM:=Q1 Dd;clear Dd;have iU:=bV;obtain⟨U',T',CU,hk',nT,sE⟩:=bV;have c0:=CU.c0;by_cases hlt:i<N
 ·have g1:(i:Int)<(N:Int):=by omega
  have ME:OwnF wr w.heap.size A1 N c1 FS:=zw iE hk' (fun g e e2=>by have:=(iE.blk_lt e).1;have:=ww g e2;omega);obtain⟨b1,off,rfl,dx,bI,bC⟩:=xF yE ME.rd hlt;have k0:=bC 0 _ rfl;have k1:=bC 1 _ rfl;have k2:=bC 2 _ rfl;have k3:=bC 3 _ rfl;have k4:=bC 4 _ rfl;have k5:=bC 5 _ rfl;have k6:=bC 6 _ rfl;have k7:=bC 7 _ rfl;have gG:=nw _ (kI bI);have Do:=fun h=>Q1 (LS.goes_snoc (ctl:=ctl) (L:=L) bI h)
  have mY:=fun h=>Q1 (LS.goes_stop (ctl:=ctl) (L:=L) (l:=FS) (i:=i) h)
  have Lx:=kI bI;clear bC;generalize FS[i]=f at*;simp only[K2]at k0;obtain⟨fb,w4,bD,bo,hF,Hn⟩:=zq wr #[.bool false,.bool false,.bool false,.bool false,.int .u8 0,.int .u8 0,.int .u16 0,.string ⟨#[]⟩] 97;go_wp2_with(with_reducible refine h_B ?_);rw[←bD,←bo];have Ea:wr.heap.size≤fb:=by rw[bD];exact KL _
  clear bD bo;refine zc (zn (v:=.agg #[.bool f.first,.bool f.last,.bool f.beg,.bool f.fin,.int .u8 (f.ty:Int),.int .u8 (f.track:Int),.int .u16 (f.chan:Int),.string (str f.load)]) (vs:=[.bool f.first,.bool f.last,.bool f.beg,.bool f.fin,.int .u8 (f.ty:Int),.int .u8 (f.track:Int),.int .u16 (f.chan:Int),.string (str f.load)]) rfl rfl rfl rfl hF rfl Wj Wz WZ #[.bool f.first,.bool f.last,.bool f.beg,.bool f.fin,.int .u8 (f.ty:Int),.int .u8 (f.track:Int),.int .u16 (f.chan:Int),.string (str f.load)] Wz ?_);intro w5 iO H9 ef;clear ef;have bw:Below wr.heap.size wr w5:=Hn.grown H9 Hn.size (fun g e=>by injection e with e;omega);have tf:=CU.below bw;have sh:KeepF U wc w5:=hk'.trans (KeepF.below (F:=U) bw) (fun g e=>.inl e);have he5:MEnv w5:=(he.onK dS DU).onK sh DU;have LE:LStep wc B U T lb (n+i) RA' (rn-u) (rn-u) M w5:=LStep.of sh nT sE (LStep.refl tf);clear hF H9 Hn c0 k0 k1 k2 k3 k4 k5 k6 k7 ME iU CU w4;have c0:=tf.c0;by_cases h5:M.st=5
  ·(have h6:((M.st:Nat):Int)=5:=by omega);have HG:=Q1 (show L.goes ctl FS=M from(mY (by rw[←HM.out];exact h5)).out.trans HM.out.symm);rw[h6]at c0;clear B5 h6 CT;go_wp2_with(with_reducible refine h_B ?_);refine bodyPost_ret (results_none rfl _ _ _) rfl ?_;(have m7:L.frames ctl FS er=M:=by unfold LS.frames;rw[HG.out,if_neg (fun e=>e.2 h5)]);exact⟨rfl,RA',by rw[m7];exact(LStep.of dS (fun _ e=>.inl e) (fun _ e=>.inl e) LE).mono Wq,Rd.more (qH iM sh (KL _) Ff) sh.1,(by first|exact dG|simpa using dG)⟩
  have h6:¬((M.st:Nat):Int)=5:=by omega
  have HG:=Q1 (show L.goes ctl (FS.take (i+1))=M.take ctl f from(Do (by rw[←HM.out];exact h5)).out.trans (by rw[←HM.out]));obtain⟨p1,p2,p3,p4,p5⟩:=hP _ _ L4;have ic:=Vi ctl f tf p1 gG.1 gG.2 Wq he5 fL p2 p3 p4 p5 (fun a A c W U1 T1 e1 e2 e3 e4 e5 e6 e7=>B5 i M f a A c W U1 T1 _ _ _ _ Lx L4 e1 e2 e3 e4 e5 e6 (((dS.toBelow Im TO).trans (sh.toBelow (KS Im dS.1) TO)).trans e7));unfold frV at ic;have f0:=iO.c0;have f1:=iO.c1;have f2:=iO.c2;have f3:=iO.c3;have f4:=iO.c4;have f5:=iO.c5;have f6:=iO.c6;have f7:=iO.c7;clear B5 Do mY;go_wp2_with(with_reducible refine h_B ?_);refine ic.mono ?_;rintro e w6 ⟨rfl,SI⟩;go_wp2_with(with_reducible refine h_B ?_);refine⟨⟨i+1,by omega,by go_num,?_,?_⟩,by simp[RowKit.intOf];omega⟩
  ·rw[HG.out];exact LStep.of sh nT sE SI
  rw[HG.out];exact CT _ _ _ (by rw[←HN.out];exact hlt) Lx L4
 obtain rfl:i=N:=by omega
 have HG:=Q1 (show L.goes ctl FS=M by rw[HM.out,HN.out,List.take_length]);obtain⟨p1,p2,p3,p4,p5⟩:=hP _ _ L4;have hdp:¬(i:Int)<(i:Int):=by omega
 have heR:MEnv wr:=(he.onK dS DU).onK hk' DU;clear B5 CT;by_cases h0:er=0
 ·have qqcs:=();exact Z2v_
 have h1:¬(er:Int)=0:=by omega
 by_cases h5:M.st=5
 ·exact Z2v_
 have h6:¬((M.st:Nat):Int)=5:=by omega
 have Bc:=jU 501 yp WJ WJ CU heR p2 p4;rw[show((501:Nat):Int)=501 from rfl,show str yp=(⟨#[102,114,97,109,101]⟩:ByteArray)from rfl]at Bc;have h7:((er:Int)!=0)=true:=by simp;omega
 have h8:(((M.st:Nat):Int)!=5)=true:=by simp;omega
 go_wp2_with(with_reducible refine h_B ?_);refine Bc.mono ?_;rintro e w9 ⟨rfl,Se⟩;clear Bc;go_wp2_with(with_reducible refine h_B ?_);go_end0;have m7:L.frames ctl FS er=M.close 501 yp:=by unfold LS.frames;rw[HG.out,if_pos ⟨h0,h5⟩]
 have Df:=LStep.of hk' nT sE Se;have IS:=Df.choose_spec.choose_spec.2.1;exact⟨rfl,RA',by rw[m7];exact LStep.of dS (fun _ e=>.inl e) (fun _ e=>.inl e) Df,Rd.more (qH iM IS (KL _) Ff) IS.1,(by first|exact dG|simpa using dG)⟩
section
section
variable {w : World} {B : Nat} {U T : Nat → Prop} {lb n : Nat} {RA : Option Addr} {rn rc : Nat} {L : LS}
theorem LkM.setSt(h:LkM w B U T lb n RA rn rc L)(v:Nat):LkM (w.setCell ⟨lb,0,none⟩ (.int .u8 (v:Int))) B U T lb n RA rn rc {L with st:=v}:=by
 have qqae:=();exact Z23_
theorem LkM.setCh(h:LkM w B U T lb n RA rn rc L)(v:Nat):LkM (w.setCell ⟨lb,3,none⟩ (.int .u64 (v:Int))) B U T lb n RA rn rc {L with ch:=v}:=by
 exact Z23_
theorem LkM.setSz(h:LkM w B U T lb n RA rn rc L)(v:Nat):LkM (w.setCell ⟨lb,4,none⟩ (.int .u64 (v:Int))) B U T lb n RA rn rc {L with sz:=v}:=by
 have qqaf:=();exact Z23_
theorem LStep.set{w0:World}(h:LStep w0 B U T lb n RA rn rc L w)(dc:U lb)(j:Nat)(v:Value){L2:LS}(hL:∀U' T',LkM w B U' T' lb n RA rn rc L→LkM (w.setCell ⟨lb,j,none⟩ v) B U' T' lb n RA rn rc L2):LStep w0 B U T lb n RA rn rc L2 (w.setCell ⟨lb,j,none⟩ v):=by
 obtain⟨U',T',h1,h2,h3,h4⟩:=h;exact⟨U',T',hL _ _ h1,h2.trans (KeepF.grown (F:=fun k=>k=lb) (yC w lb j v) (fun g e=>.inl uQ)) (fun k e=>.inl (e▸dc)),h3,h4⟩
end
theorem Xy(m:Mt)(A:Option Addr)(c:Nat){L:LS}(h:LkM w B U T lb n RA rn rc L)(he:MEnv w)(Bw:L.sz≤1000000)(hs:L.sent.length≤10000000000):
  Calls prog 83 #[.pointer (some ⟨lb,0,none⟩),.agg (mtV m A c)] w fun e w'=>e= .returned (.tuple #[])∧LStep w B U T lb n RA rn rc {L.send vX with st:=2} w':=by
 exact Zv_
theorem Qr(m:Mt)(A:Option Addr)(c:Nat){L:LS}(h:LkM w B U T lb n RA rn rc L)(he:MEnv w)(Bw:L.sz≤1000000)(hs:L.sent.length≤10000000000):
  Calls prog 86 #[.pointer (some ⟨lb,0,none⟩),.agg (mtV m A c)] w fun e w'=>e= .returned (.tuple #[])∧LStep w B U T lb n RA rn rc {L.send Zq with st:=5} w':=by
 have qq5s:=();exact Zv_
def kL:List UInt8:=[111,112,101,110]
def qi:List UInt8:=[116,117,110,101]
def LS.opened(L:LS)(s:List UInt8):LS:=if s≠ []∧s≠ [47]then L.close 402 kL else{L.send Zp with st:=4}
def LS.tuned(L:LS)(c f:Nat):LS:=if 255<c∨f<256∨4096<f then L.close 501 qi else{L with ch:=c,sz:=f,st:=3}
theorem Qs(m:Mt)(A:Option Addr)(c:Nat){L:LS}(h:LkM w B U T lb n RA rn rc L)(he:MEnv w)(hm:RMw w m A c)(hl:m.args.length=1)(a:Ag)(ha:m.args[0]?=some a)(Bw:L.sz≤1000000)(hs:L.sent.length≤10000000000):
  Calls prog 85 #[.pointer (some ⟨lb,0,none⟩),.agg (mtV m A c)] w fun e w'=>e= .returned (.tuple #[])∧LStep w B U T lb n RA rn rc (L.opened a.s) w':=by
 unfold mtV;rw[hl];obtain⟨ab,off,hx,rfl,ra,hc⟩:=hm.elem (i:=0) Wq;have e0:m.args[0]=a:=by rw[Wb Wq]at ha;injection ha
 obtain⟨xb,w0,bD,bo,hX,Hy⟩:=zq w #[.int .u8 (m.cls:Int),.int .u8 (m.code:Int),.bool m.sync,.slice (some ⟨ab,off,none⟩) 1 c] 106;have z2:=hc w0 Hy 2 _ rfl;rw[e0]at z2;simp only[Vx,K2]at z2;obtain⟨s,GA⟩:∃s,s=a.s:=⟨_,rfl⟩
 rw[←GA]at z2 ⊢;clear GA hc ha e0 ra hm hl;have fy:=X7 8 [] Zp ctl8 WJ none 0 0 (h.below Hy) (he.on Hy) (Rd.nil _ _ _ _ WX _) Bw hs;rw[show(((8:Nat)):Int)=8 from rfl]at fy;have Bc:=jU 402 kL WJ WJ (h.below Hy) (he.on Hy) Bw hs;rw[show((402:Nat):Int)=402 from rfl,show str kL=(⟨#[111,112,101,110]⟩:ByteArray)from rfl]at Bc;have x3:=hX.c3;go_enter func85,ntmps85;go_upto_region 1 with fail;rw[←bD,←bo];clear bD bo hX;by_cases q1:s=[]
 ·have HR:=Q1 (show L.opened s={L.send Zp with st:=4} by unfold LS.opened;rw[if_neg (fun e=>e.1 q1)]);subst q1;have d0:(str ([]:List UInt8)).toList=[]:=by rw[zl]
  clear Bc;go_wp2_with(with_reducible refine h_A ?_)
  (with_reducible refine fy.mono ?_)
  rintro e w5 ⟨rfl,bV⟩;clear fy;have iU:=bV;obtain⟨U',T',hM,_,_,_⟩:=bV;have c0:=hM.c0;have c1:=hM.thaw 0;clear hM;go_wp2_with(with_reducible refine h_A ?_);go_end0;exact⟨rfl,by rw[HR.out];exact(LStep.from Hy iU).set h.lb 0 _ (fun _ _ hM=>hM.setSt 4)⟩
 exact Z1r_
theorem JT(m:Mt)(A:Option Addr)(c:Nat){L:LS}(h:LkM w B U T lb n RA rn rc L)(he:MEnv w)(hm:RMw w m A c)(hl:m.args.length=2)(a b:Ag)(ha:m.args[0]?=some a)(hb:m.args[1]?=some b)(Bw:L.sz≤1000000)(hs:L.sent.length≤10000000000):
  Calls prog 84 #[.pointer (some ⟨lb,0,none⟩),.agg (mtV m A c)] w fun e w'=>e= .returned (.tuple #[])∧LStep w B U T lb n RA rn rc (L.tuned a.n b.n) w':=by
 unfold mtV;rw[hl];obtain⟨ab,off,hx,rfl,ra,hc⟩:=hm.elem (i:=0) Wq;obtain⟨Ls,Ax,CL,ET,rb,ca⟩:=hm.elem (i:=1) Wq;injection ET with ET
 injection ET with q1 q2 _
 subst q1 q2;have e0:m.args[0]=a:=by rw[Wb Wq]at ha;injection ha
 have e1:m.args[1]=b:=by rw[Wb Wq]at hb;injection hb
 obtain⟨xb,w0,bD,bo,hX,Hy⟩:=zq w #[.int .u8 (m.cls:Int),.int .u8 (m.code:Int),.bool m.sync,.slice (some ⟨ab,off,none⟩) 2 c] 106;have z1:=hc w0 Hy 1 _ rfl;have z2:=ca w0 Hy 1 _ rfl;rw[e0]at z1;rw[e1]at z2;simp only[Vx,K2,Nat.one_mul]at z1 z2;obtain⟨x,Gt⟩:∃x,x=a.n:=⟨_,rfl⟩
 obtain⟨y,GT⟩:∃x,x=b.n:=⟨_,rfl⟩
 rw[←Gt]at z1 ⊢;rw[←GT]at z2 ⊢;clear Gt GT hc ca ha hb e0 e1 hm hl ra rb;have x3:=hX.c3;go_enter func84,ntmps84;go_upto_region 1 with fail;rw[←bD,←bo];clear bD bo hX;have h0:=h.below Hy;try simp only[Act.put]
 go_quiet(fail);clear x3 z1 z2;have h1:=h0.below (za (Q2 _ _) nq);have Ha:=za Hy nq;have EV:=he.on Ha;have Bc:=jU 501 qi WJ WJ h1 EV Bw hs;rw[show((501:Nat):Int)=501 from rfl,show str qi=(⟨#[116,117,110,101]⟩:ByteArray)from rfl]at Bc;have c0:=h1.c0;have c3:=h1.c3;have c4:=h1.c4;have f0:=h1.thaw 0;have f3:=h1.thaw 3;have f4:=h1.thaw 4;clear h0 Hy he EV;generalize w0.drewN nq=wq at*;by_cases q1:255<x
 ·have qqbn:=();exact Z2i_
 have d1:¬(255:Int)<(x:Int):=by omega
 by_cases q2:y<256
 ·have qqbo:=();exact Z2i_
 have d2:¬(y:Int)<256:=by omega
 by_cases q3:4096<y
 ·have HR:=Q1 (show L.tuned x y=L.close 501 qi by unfold LS.tuned;rw[if_pos (.inr (.inr q3))]);have d3:(4096:Int)<(y:Int):=by omega
  go_wp2_with(with_reducible refine h_A ?_)
  (with_reducible refine Bc.mono ?_)
  rintro e w9 ⟨rfl,bV⟩;clear Bc;go_wp2_with(with_reducible refine h_A ?_);refine bodyPost_ret (results_none rfl _ _ _) rfl ?_;exact⟨rfl,by rw[HR.out];exact LStep.from Ha bV⟩
 have HR:=Q1 (show L.tuned x y={L with ch:=x,sz:=y,st:=3} by unfold LS.tuned;rw[if_neg Wq]);have d3:¬(4096:Int)<(y:Int):=by omega
 clear Bc q1 q2 q3;go_wp2_with(with_reducible refine h_A ?_);go_end0;refine⟨rfl,?_⟩;rw[HR.out];exact LStep.from Ha ((((LStep.refl h1).set h.lb 3 _ (fun _ _ hM=>hM.setCh x)).set h.lb 4 _ (fun _ _ hM=>hM.setSz y)).set h.lb 0 _ (fun _ _ hM=>hM.setSt 3))
end
def jr:List UInt8:=[99,111,110,110,101,99,116,105,111,110,46,115,116,97,114,116,45,111,107]
def kh:List UInt8:=[99,111,110,110,101,99,116,105,111,110,46,116,117,110,101,45,111,107]
def Yk:List UInt8:=[99,111,110,110,101,99,116,105,111,110,46,111,112,101,110]
def vF:List UInt8:=[99,111,110,110,101,99,116,105,111,110,46,99,108,111,115,101]
def yo:List UInt8:=[99,111,110,116,114,111,108]
def ctlK(c k:Nat):Nat:=if c=1∧(k=2∨k=6∨k=7∨k=11)then k else 0
theorem zco:(List.range 9).all (fun c=>(qV c).all fun r=>decide (ctlK c r.code=0→xi c++ [46]++r.word≠jr∧xi c++ [46]++r.word≠kh∧xi c++ [46]++r.word≠Yk∧xi c++ [46]++r.word≠vF))=true:=by decide+kernel
theorem za6(c k:Nat):(ctlK c k=2∧c=1∧k=2∧qN c k=jr)∨(ctlK c k=6∧c=1∧k=6∧qN c k=kh)∨(ctlK c k=7∧c=1∧k=7∧qN c k=Yk)∨(ctlK c k=11∧c=1∧k=11∧qN c k=vF)∨
  (ctlK c k=0∧qN c k≠jr∧qN c k≠kh∧qN c k≠Yk∧qN c k≠vF):=by
 by_cases h:c=1∧(k=2∨k=6∨k=7∨k=11)
 ·obtain⟨rfl,h⟩:=h;rcases h with rfl|rfl|rfl|rfl
  ·exact .inl ⟨rfl,rfl,rfl,by decide⟩
  ·exact .inr (.inl ⟨rfl,rfl,rfl,by decide⟩)
  ·exact .inr (.inr (.inl ⟨rfl,rfl,rfl,by decide⟩))
  exact .inr (.inr (.inr (.inl ⟨rfl,rfl,rfl,by decide⟩)))
 have h0:ctlK c k=0:=by unfold ctlK;rw[if_neg h]
 refine .inr (.inr (.inr (.inr ⟨h0,?_⟩)))
 cases hr:ym c k with
 | none=>
  have e:qN c k=[]:=by unfold qN YJ;rw[hr];rfl
  rw[e]
  exact⟨by decide,by decide,by decide,by decide⟩
 | some r=>
  have e:qN c k=xi c++ [46]++r.word:=by unfold qN YJ;rw[hr];rfl
  rw[e];unfold ym at hr;have hm:=List.mem_of_find?_eq_some hr;have hk:=List.find?_some hr;simp only[decide_eq_true_eq]at hk
  have hc:c<9:=by
   have:=QY (c:=c) (fun e=>by rw[e]at hm;cases hm);omega
  have h1:=kv.1 zco c (List.mem_range.2 hc);have h2:=kv.1 h1 r hm;simp only[decide_eq_true_eq]at h2;exact h2 (by rw[hk];exact h0)
def LS.ctlM(L:LS)(a:As)(m:Mt)(er:Int):LS:=
 if a.track≠0∨er≠0 then L.close 501 yo
 else if ctlK m.cls m.code=2∧L.st=1 then{L.send vX with st:=2}
 else if ctlK m.cls m.code=6∧L.st=2 then L.tuned (m.args.getD 0 (ag0 false)).n (m.args.getD 1 (ag0 false)).n
 else if ctlK m.cls m.code=7∧L.st=3 then L.opened (m.args.getD 0 (ag0 false)).s
 else if ctlK m.cls m.code=11 then{L.send Zq with st:=5}
 else L.close 501 yo
def ctlF(f:FuncId)(lb:Nat):Value:=.func (.func f) #[.pointer (some ⟨lb,0,none⟩)] #[]
def Q8(s:Nat)(f:FuncId)(lb:Nat):DataW Value:=.held (.agg #[.int .u8 (s:Int),ctlF f lb])
def CtlAt(lb st c k:Nat)(s:Nat)(fv:Value)(is:Bool):Prop:=
 (ctlK c k=2∧c=1∧k=2∧s=1∧fv=ctlF 83 lb∧is=true)∨(ctlK c k=6∧c=1∧k=6∧s=2∧fv=ctlF 84 lb∧is=true)∨
 (ctlK c k=7∧c=1∧k=7∧s=3∧fv=ctlF 85 lb∧is=true)∨(ctlK c k=11∧c=1∧k=11∧s=st∧fv=ctlF 86 lb∧is=true)∨(ctlK c k=0∧s=0∧fv= .nilFunc∧is=false)
def ctlD(lb st:Nat):DataW Value:=((((DataW.map []:DataW Value).put (.string jr) (Q8 1 83 lb)).put (.string kh) (Q8 2 84 lb)).put (.string Yk) (Q8 3 85 lb)).put (.string vF) (Q8 st 86 lb)
theorem CtlAt.one{k:Nat}(h:CtlAt lb st c k s fv is):fv.oneCell'=true:=by
 rcases h with⟨_,_,_,_,rfl,_⟩|⟨_,_,_,_,rfl,_⟩|⟨_,_,_,_,rfl,_⟩|⟨_,_,_,_,rfl,_⟩|⟨_,_,rfl,_⟩<;>rfl
theorem zcp(l:List UInt8)(h:l.length≤1000):keyOf prog 9 (.string (str l))=some (.string l):=by
 have:=WideMaps.keyOf_string_mk (P:=prog) underlying9 (s:=str l) (by rw[zi];unfold maxLen;omega);rw[this];congr 2
theorem za7{l:List UInt8}(h1:l≠jr)(h2:l≠kh)(h3:l≠Yk)(h4:l≠vF):Maps.has (ctlD lb st) (.string l)=false:=by
 have ne:∀{x:List UInt8},l≠x→(Lit.string l)≠ .string x:=fun h e=>h NX
 unfold ctlD;rw[Maps.has_put_other (ne h4),Maps.has_put_other (ne h3),Maps.has_put_other (ne h2),Maps.has_put_other (ne h1)];rfl
theorem Vh(c k:Nat):(qN c k).length≤1000:=by
 unfold qN YJ
 cases hr:ym c k with
 | none=>simp
 | some r=>
  have h:=(Z8 hr).2.1;show(xi c++ [46]++r.word).length≤1000
  omega
theorem za8(lb st c k:Nat):∃s fv is,CtlAt lb st c k s fv is∧∀(W:World) (mb n:Nat),W.ownsMap prog 9 rawV mb n (ctlD lb st)→(Instr.lookup 164 (.map (some mb)) (.string (str (qN c k))) true).run prog W= .ok (.tuple #[.agg #[.int .u8 ((s:Nat):Int),fv],.bool is]) W:=by
 have iL:∀(W:World) (mb n:Nat),W.ownsMap prog 9 rawV mb n (ctlD lb st)→∃v ps,(Instr.lookup 164 (.map (some mb)) (.string (str (qN c k))) true).run prog W= .ok (.tuple #[v,.bool (Maps.has (ctlD lb st) (.string (qN c k)))]) W∧rawV v=some ((ctlD lb st).atKey (.string (qN c k)) (.held (.agg #[.int .u8 0,.nilFunc])),ps):=
  fun W mb n h=>h.look_ok (t:=164) (Maps.string_keyed underlying9) underlying164 (zeroValue163 W) (zd:=.held (.agg #[.int .u8 0,.nilFunc])) (zp:=[]) rfl (zcp _ (Vh c k))
 have oU:∀(u:Value) (is:Bool),Maps.has (ctlD lb st) (.string (qN c k))=is→(ctlD lb st).atKey (.string (qN c k)) (.held (.agg #[.int .u8 0,.nilFunc]))= .held u→∀(W:World) (mb n:Nat),W.ownsMap prog 9 rawV mb n (ctlD lb st)→
   (Instr.lookup 164 (.map (some mb)) (.string (str (qN c k))) true).run prog W= .ok (.tuple #[u,.bool is]) W:=fun u is e1 e2 W mb n h=>by
  obtain⟨v,ps,bu,hv⟩:=iL W mb n h;rw[e2]at hv;have h2:=congrArg Prod.fst (Option.some.inj hv);have h3:DataW.held v=DataW.held u:=h2;have h4:v=u:=by injection h3
  rw[e1,h4]at bu;exact bu
 rcases za6 c k with⟨h0,hc,hk,e⟩|⟨h0,hc,hk,e⟩|⟨h0,hc,hk,e⟩|⟨h0,hc,hk,e⟩|⟨h0,h1,h2,h3,h4⟩
 ·exact⟨1,_,true,.inl ⟨h0,hc,hk,rfl,rfl,rfl⟩,oU (.agg #[.int .u8 ((1:Nat):Int),ctlF 83 lb]) true (by rw[e];kernel_rfl) zAi⟩
 ·exact⟨2,_,true,.inr (.inl ⟨h0,hc,hk,rfl,rfl,rfl⟩),oU (.agg #[.int .u8 ((2:Nat):Int),ctlF 84 lb]) true (by rw[e];kernel_rfl) zAi⟩
 ·exact⟨3,_,true,.inr (.inr (.inl ⟨h0,hc,hk,rfl,rfl,rfl⟩)),oU (.agg #[.int .u8 ((3:Nat):Int),ctlF 85 lb]) true (by rw[e];kernel_rfl) zAi⟩
 ·exact⟨st,_,true,.inr (.inr (.inr (.inl ⟨h0,hc,hk,rfl,rfl,rfl⟩))),oU (.agg #[.int .u8 ((st:Nat):Int),ctlF 86 lb]) true (by rw[e];kernel_rfl) zAi⟩
 have BO:=za7 (lb:=lb) (st:=st) h1 h2 h3 h4;exact⟨0,_,false,.inr (.inr (.inr (.inr ⟨h0,rfl,rfl,rfl⟩))),oU _ false BO (Maps.atKey_of_not_has BO _)⟩
theorem CtlAt.small{k:Nat}(h:CtlAt lb st c k s fv is)(bV:st<256):s<256:=by
 rcases h with⟨_,_,_,rfl,_⟩|⟨_,_,_,rfl,_⟩|⟨_,_,_,rfl,_⟩|⟨_,_,_,rfl,_⟩|⟨_,rfl,_⟩<;>omega
theorem CtlAt.bad{L:LS}{a:As}{m:Mt}{er:Int}(h:CtlAt lb L.st m.cls m.code s fv is)(hn:¬(a.track=0∧er=0∧is=true∧s=L.st)):L.ctlM a m er=L.close 501 yo:=by
 unfold LS.ctlM;split
 ·rfl
 rename_i h1
 have h2:a.track=0:=by omega
 have h3:er=0:=by omega
 rcases h with⟨e,_,_,rfl,_,rfl⟩|⟨e,_,_,rfl,_,rfl⟩|⟨e,_,_,rfl,_,rfl⟩|⟨e,_,_,rfl,_,rfl⟩|⟨e,rfl,_,rfl⟩
 ·have:¬L.st=1:=fun e2=>hn ⟨h2,h3,rfl,e2.symm⟩
  simp[e,this]
 ·have:¬L.st=2:=fun e2=>hn ⟨h2,h3,rfl,e2.symm⟩
  simp[e,this]
 ·have:¬L.st=3:=fun e2=>hn ⟨h2,h3,rfl,e2.symm⟩
  simp[e,this]
 ·exact absurd ⟨h2,h3,rfl,rfl⟩ hn
 simp[e]
def GetC(w0:World)(b:List UInt8)(m:Mt)(er:Int):Prop:=∀(A:Option Addr) (n c:Nat) (W:World),Below w0.heap.size w0 W→RdB W W.heap.size A n c b→MEnv W→
 Calls prog 87 #[.slice A n c] W fun e w'=>∃A2 c2,e= .returned (.tuple #[.agg (mtV m A2 c2),.int .i64 er])∧RM w' (FN W.heap.size w') m A2 c2∧Below W.heap.size W w'
theorem Xx(a:As)(sg:Sg)(rest:List Sg)(gw:a.segs=sg::rest)(m:Mt)(er:Int)(tV:GetC w sg.load m er)(bQ:er=0→m.args.length=(yv (ym m.cls m.code)).length)(A:Option Addr)(c:Nat){L:LS}
  (h:LkM w B U T lb n RA rn rc L) (hO:OwnG w 0 A a.segs.length c a.segs) (Gn:sg.load.length≤1000000) (he:MEnv w) (bV:L.st<256) (Bw:L.sz≤1000000) (hs:L.sent.length≤10000000000):
  Calls prog 56 #[.pointer (some ⟨lb,0,none⟩),.agg (asV a.chan a.track A a.segs.length c)] w fun e w'=>e= .returned (.tuple #[])∧LStep w B U T lb n RA rn rc (L.ctlM a m er) w':=by
 unfold asV;obtain⟨N,hN⟩:∃N,N=a.segs.length:=⟨_,rfl⟩
 rw[←hN]at hO ⊢;have tF:0<N:=by rw[hN,gw];simp
 rw[gw]at hO;obtain⟨ab,off,rfl,Bo,bI,bC⟩:=xF yW hO.rd tF;have z1:=bC 1 _ rfl;simp only[Vx,K2,Vy]at z1;clear hN gw bI bC hO;have g0:(0:Int)<(N:Int):=by omega
 obtain⟨xb,w0,bD,bo,hX,Hy⟩:=zq w #[.int .u16 (a.chan:Int),.int .u8 (a.track:Int),.slice (some ⟨ab,off,none⟩) N c] 42;have h0:=h.below Hy;have nE:=fun W=>run_makeMap (P:=prog) 164 W
 have Hp:=World.ownsMap_made w0 prog 9 rawV;have hB:=(Q2 w0.heap.size w0).alloc (KL _) (.map #[] 0);have hh:LkM (w0.alloc (.map #[] 0)) B U T lb n RA rn rc L:=h0.below ((Q2 w0.heap.size w0).alloc (KL _) (.map #[] 0));go_enter func56,ntmps56;go_upto_region 1 with fail;rw[←bD,←bo];clear bD bo;go_wp2_with(with_reducible refine h_M ?_);obtain⟨mb,cw⟩:∃m,m=w0.heap.size:=⟨_,rfl⟩
 rw[←cw]at Hp ⊢;have NK:w0.heap.size≤mb:=by omega
 clear cw nE;generalize(w0.alloc (.map #[] 0))=v1 at*;refine zc (zm (H:=Value) _ rfl _ _ _ 164 rfl 9 163 (Maps.string_keyed underlying9) underlying164 rawV _ _ _ rfl Hp WX _ _ (.string jr) rfl rfl (WideMaps.keyOf_string_mk underlying9 WJ) _ [] rfl ?_);intro v2 Hr bM;have Hc:=hB.grown bM hB.size Wx;clear Hp bM hB;have Hp:=Hr;have hB:=Hc;clear Hr Hc;generalize v2=v1 at*;go_wp2_with(with_reducible refine h_M ?_);refine zc (zm (H:=Value) _ rfl _ _ _ 164 rfl 9 163 (Maps.string_keyed underlying9) underlying164 rawV _ _ _ rfl Hp WX _ _ (.string kh) rfl rfl (WideMaps.keyOf_string_mk underlying9 WJ) _ [] rfl ?_);intro v2 Hr bM;have Hc:=hB.grown bM hB.size Wx;clear Hp bM hB;have Hp:=Hr;have hB:=Hc;clear Hr Hc;generalize v2=v1 at*;go_wp2_with(with_reducible refine h_M ?_);refine zc (zm (H:=Value) _ rfl _ _ _ 164 rfl 9 163 (Maps.string_keyed underlying9) underlying164 rawV _ _ _ rfl Hp WX _ _ (.string Yk) rfl rfl (WideMaps.keyOf_string_mk underlying9 WJ) _ [] rfl ?_);intro v2 Hr bM;have Hc:=hB.grown bM hB.size Wx;clear Hp bM hB;have Hp:=Hr;have hB:=Hc;clear Hr Hc;generalize v2=v1 at*;have c0:=(h0.below hB).c0;go_wp2_with(with_reducible refine h_M ?_);refine zc (zm (H:=Value) _ rfl _ _ _ 164 rfl 9 163 (Maps.string_keyed underlying9) underlying164 rawV _ _ _ rfl Hp WX _ _ (.string vF) rfl rfl (WideMaps.keyOf_string_mk underlying9 WJ) _ [] rfl ?_);intro v2 Hr bM;have Hc:=hB.grown bM hB.size Wx;clear Hp bM hB;have Hp:=Hr;have hB:=Hc;clear Hr Hc;generalize v2=v1 at*;clear c0;have hD:v1.ownsMap prog 9 rawV mb _ (ctlD lb L.st):=Hp;have Ha:=Hy.trans (hB.mono Hy.size);have i9:=hX.below hB
 have Sa:mb<v1.heap.size:=by
  obtain⟨es,clock,hb,_⟩:=hD;exact(Array.getElem?_eq_some_iff.1 hb).1
 have x2:=i9.c2;have z2:=(Ha.cell (p:=⟨ab,off+1,none⟩) (by first|exact Bo|omega)).trans z1;clear Hp hB hX h0 z1;go_wp2_with(first|(with_reducible refine zZ ?_)|(with_reducible refine yr ?_)|(with_reducible refine yq ?_)|(with_reducible refine yg ?_)|(with_reducible refine yt (s:=9) (t:=55) ?_));refine zc (QU underlying9 underlying55 underlying5 rfl rfl rfl (l:=sg.load) Wq ?_);intro c3 w3 cj Hh;have gx:=Ha.trans (Hh.mono Ha.size);have fV:=tV _ _ c3 w3 gx cj (he.on gx);clear tV x2 z2 cj;go_wp2_with(with_reducible refine h_A ?_);refine fV.mono ?_;rintro e w4 ⟨A2,c2,rfl,mi,Hn⟩;clear fV;unfold mtV;obtain⟨rb,w5,bD,bo,hR,bw⟩:=yR w4 #[.int .u8 0,.int .u8 0,.bool false,.slice none 0 0] 106;have gF:=mi.mono (fun g hg=>hg.2);have pi:=Hh.trans (Hn.mono Hh.size);have mB:=Ha.trans (pi.mono Ha.size);have Lr:w4.heap.size≤rb:=by rw[bD];exact KL _
 clear mi Hh Hn gx;go_wp2_with(with_reducible refine h_B ?_);rw[←bD,←bo];clear bD bo;refine zc (zn (v:=.agg #[.int .u8 (m.cls:Int),.int .u8 (m.code:Int),.bool m.sync,.slice A2 m.args.length c2]) (vs:=[.int .u8 (m.cls:Int),.int .u8 (m.code:Int),.bool m.sync,.slice A2 m.args.length c2]) rfl rfl rfl rfl hR rfl Wj Wz qO #[.int .u8 (m.cls:Int),.int .u8 (m.code:Int),.bool m.sync,.slice A2 m.args.length c2] Wz ?_);intro w6 bE bz fc;clear fc;have mL:Below w4.heap.size w4 w6:=bw.grown bz bw.size Wx;have IT:=mB.trans (mL.mono mB.size);have Sx:=pi.trans (mL.mono pi.size);have y0:=bE.c0;have y1:=bE.c1;have gZ:=Vp m.cls m.code w6 (he.on IT);clear hR bw bz;go_wp2_with(with_reducible refine h_A ?_);refine gZ.mono ?_;rintro e w7 ⟨rfl,Bn⟩;obtain⟨s,fv,is,eY,iL⟩:=za8 lb L.st m.cls m.code;have u0:=mL.trans (Bn.mono mL.size);have Ep:=mB.trans (u0.mono mB.size);have Ak:=pi.trans (u0.mono pi.size);have BJ:=bE.below Bn;have Ro:=iL w7 mb _ (yj hD (Ak.block mb Sa));have lC:=eY.one;clear iL gZ y0 y1 bE mL IT Sx Bn;obtain⟨qb,w8,bD,bo,hQ,Bf⟩:=yR w7 #[.int .u8 0,.nilFunc] 163;have heb:w7.heap.size≤qb:=by rw[bD];exact KL _
 go_wp2_with(with_reducible refine h_B ?_);rw[←bD,←bo];clear bD bo;refine zc (zn (v:=.agg #[.int .u8 (s:Int),fv]) (vs:=[.int .u8 (s:Int),fv]) rfl rfl rfl rfl hQ rfl Wj Wz (by intro u hu;simp at hu;rcases hu with rfl|rfl;rfl;exact lC) #[.int .u8 (s:Int),fv] Wz ?_);intro w9 OF du iJ;clear iJ;have tJ:Below w7.heap.size w7 w9:=Bf.grown du Bf.size Wx;have FE:=u0.trans (tJ.mono u0.size);have p7:=Ep.trans (tJ.mono Ep.size);have Mi:=Ak.trans (tJ.mono Ak.size);have lV:=BJ.below tJ;have i7:=i9.below Mi;have h9:=h.below p7;clear hQ Bf du Ro BJ u0 Ep Ak tJ i9 hD pi mB;have x1:=i7.c1;have c0:=h9.c0;have q0:=OF.c0;have Wc:=eY.small bV;go_upto_region 5 with fail;by_cases qq:a.track=0∧er=0∧is=true∧s=L.st
 ·obtain⟨q1,q2,q3,q4⟩:=qq;have HT:=Q1 q1;have HE:=Q1 q2;have d1:((a.track:Int)!=0)=false:=by rw[q1];rfl
  have d2:(er !=0)=false:=by rw[q2];rfl
  have d3:((s:Int)!=(L.st:Int))=false:=by rw[q4];simp
  subst q3;try simp only[Act.put]
  go_quiet(fail);clear d1 d2 d3 c0 q0 x1 q1 q2;have i8:=za (Q2 w9.heap.size w9) nq;have hn:=h9.below i8;have bL:=za p7 nq;have Bc:=he.on bL;have hQn:=OF.below i8;have Nr:=lV.below i8;have mR:=gF.up (FE.trans (i8.mono FE.size));have k0:=Nr.c0;have k1:=Nr.c1;have k2:=Nr.c2;have k3:=Nr.c3;have f1:=hQn.c1;clear h9 i8 OF lV i7 gF FE p7 Mi he;generalize w9.drewN nq=wq at*;rcases eY with⟨hk,hc,hd,BZ,rfl,_⟩|⟨hk,hc,hd,BZ,rfl,_⟩|⟨hk,hc,hd,BZ,rfl,_⟩|⟨hk,hc,hd,BZ,rfl,_⟩|⟨_,_,_,h⟩
  ·have qq9v:=();exact Z20_
  ·exact Z20_
  ·have HR:=Q1 (show L.ctlM a m er=L.opened (m.args.getD 0 (ag0 false)).s by unfold LS.ctlM;rw[if_neg zAd,if_neg Wq,if_neg Wq,if_pos ⟨hk,by omega⟩]);(have cN:m.args.length=1:=by rw[bQ HE.out,hc,hd];rfl);have rf:=Qs m A2 c2 hn Bc mR cN (m.args.getD 0 (ag0 false)) (by rw[List.getD_eq_getElem?_getD,Wb Wq];rfl) Bw hs;clear cN;exact Z4e_
  ·have qq9w:=();exact Z20_
  cases h
 have HR:=Q1 (eY.bad qq);clear eY;by_cases q1:a.track=0
 ·have d1:((a.track:Int)!=0)=false:=by rw[q1];rfl
  by_cases q2:er=0
  ·have d2:(er !=0)=false:=by rw[q2];rfl
   cases is
   ·have qqap:=();exact Z25_
   exact Z25_
  have qqaq:=();exact Z25_
 have qqar:=();exact Z25_
end Go.PH
