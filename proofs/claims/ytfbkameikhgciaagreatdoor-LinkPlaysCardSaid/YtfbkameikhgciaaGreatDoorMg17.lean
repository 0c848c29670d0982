/- Parts. -/
import Derived.Test.YtfbkameikhgciaaGreatDoorMg16
set_option linter.all false
set_option maxRecDepth 20000
set_option maxHeartbeats 8000000
open Go.RowKit.Below renaming refl → Q2
open Go.Lib renaming hid → Q1
open List renaming getElem?_eq_getElem → K0, take_of_length_le → K1, length_append → Wb, getElem_cons_zero → q4, getD_eq_getElem?_getD → q6, drop_length → q8, append_nil → q9, getElem_toArray → kI
open Nat renaming lt_of_lt_of_le → KL, le_trans → KS, le_refl → K2, zero_mul → Vy, add_zero → Vx
namespace Go.PH
open Go.RowKit Go.Proofs Go.Proofs.Tryz
variable {b : List UInt8} {B gb lb tc : Nat} {F T U : Nat → Prop} {TT : Option Addr} {w w' w2 : World}
theorem zdt{L:LS}(h:LG L)(b s:List UInt8):LG (L.pre b s).1∧(L.pre b s).1.told=[]∧(L.pre b s).1.sent.length≤1000∧(L.pre b s).2.length≤b.length+s.length:=by
 have qq6d:=();exact Zy_
theorem zcQ{w0:World}{V:Nat→Prop}{n:Nat}{s:List UInt8}{L:LS}(nY:Below w0.heap.size w0 w)(hT:UTabs w0)(oP:MEnv w0)(h:LkI w w0.heap.size V lb n b L)(hg:LG L)(dG:b.length+s.length≤1000000)(hn:n≤100000000):
  Calls prog 12 #[.pointer (some ⟨lb,0,none⟩),.string (str s)] w fun e w'=>∃n',n'≤n+b.length+s.length∧zbW w w0.heap.size V lb n' (L.feed ctlG b s) e w':=by
 obtain⟨p1,p2,p3,p4⟩:=zdt hg b s;have gu:=vn (L.pre b s).2
 have fm:=VY ctlG (LB 1000 (zu (L.pre b s).2).1.length) s b h (oP.on nY) oP.lt (by have:=hg.sz;omega) Wq Wq hg.st
  Wq (fun k M hM=>hM.st) (fun k M hM=>hM.bounds Wq Wq)
  (fun k M f hk hf hM=>hM.take hk (vo _ f hf).1 ctlG (fun M a CU=>V5 CU hk a))
  (fun h0 h5=>⟨by omega,p1.inv,p1.sz,p1.ch,h0,p1.st,by omega,by rw[p2];simp⟩)
  (fun f hf=>⟨(vo _ f hf).1,by have:=(vo _ f hf).2;omega⟩)
  (fun k M f a A c W U' T' m' RA' rn' rc' hf hM cO lh hLM hG sE hE ew=>by
   obtain⟨sg,rest,gw,Gn⟩:=XR hM.inv cO;have im:=hM.bounds Wq Wq;have fC:Z0 a=sg.load:=by unfold Z0;rw[gw]
   exact Xx a sg rest gw (getP (Z0 a)).1 (getP (Z0 a)).2 (by rw[fC];exact zbB sg.load Wq W (hT.on (nY.trans ew))) (Jq _) A c hLM hG Wq hE hM.st' im.2.1 im.2.2.2.1)
 refine fm.mono ?_;intro e w' hR;exact⟨_,by omega,hR⟩
def sumL(l:List (List UInt8)):Nat:=(l.map List.length).sum
theorem X1(l:List (List UInt8))(x:List UInt8):sumL (l++ [x])=sumL l+x.length:=by simp[sumL]
def zdu(n:Nat)(L:List (List UInt8))(e:Ending):Prop:=∃g:Bool,e= .returned (.bool g)∧(g=false→n≤60∧sumL L≤20000)
theorem zas(A:Option Addr)(n c:Nat)(L:List (List UInt8))(w:World)(hr:Rd w w.heap.size 1 A n c (L.map txV))(hl:∀x∈L,x.length≤140737488351232)(hn:n≤140737488351232):
  Calls prog 8 #[.slice A n c] w fun e w'=>zdu n L e∧w=w':=by
 have hL:L.length=n:=by have:=hr.len;simpa using this
 have HL:=Q1 hL;have HR:=Q1 hr;have pJ:=Q1 hl;clear hL hr hl;go_enter func8,ntmps8;go_wp2_with(with_reducible refine h_A ?_);go_loop [4,3] (fun s4 s3=>∃k m:Nat,k≤n∧k≤60∧s4= .int .i64 (k:Int)∧s3= .int .i64 (m:Int)∧m≤6000*k∧Hid (m=sumL (L.take k))) (fun s4 _=>n-(RowKit.intOf s4).toNat)
 case atStart=>exact⟨0,0,by omega,by omega,rfl,rfl,by omega,Q1 rfl⟩
 obtain⟨k,m,hk,NO,rfl,rfl,hm,HM⟩:=hrel;by_cases hlt:k<n∧k<60
 ·have g1:(k:Int)<(n:Int):=by omega
  have g2:(k:Int)<60:=by omega
  obtain⟨b,off,u,rfl,hb,hu,hc⟩:=HR.out.at_k hlt.1;have bI:k<L.length:=by rw[HL.out];exact hlt.1
  obtain rfl:u= .string (str L[k]):=by rw[List.getElem?_map,K0 bI]at hu;exact(Option.some.inj hu).symm
  have dY:=pJ.out _ (List.getElem_mem bI);have HT:Hid (sumL (L.take (k+1))=sumL (L.take k)+L[k].length):=Q1 (by rw[List.take_succ_eq_append_getElem bI,X1]);clear hu;generalize L[k]=x at*;have sP:=zi x;by_cases Pd:6000<x.length
  ·(have d1:(6000:Int)<((str x).size:Int):=by omega);exact Z5n_
  have d1:¬(6000:Int)<((str x).size:Int):=by omega
  have LY:Hid (m+x.length=sumL (L.take (k+1))):=Q1 (by rw[HT.out,HM.out]);go_wp2_with(with_reducible refine h_A ?_);exact⟨⟨k+1,m+x.length,by omega,by omega,by go_num,by go_num,by omega,LY⟩,by simp[RowKit.intOf];omega⟩
 by_cases rO:60<n
 ·have g3:(60:Int)<(n:Int):=by omega
  obtain rfl:k=60:=by omega
  have g1:((60:Nat):Int)<(n:Int):=by omega
  have g2:¬((60:Nat):Int)<60:=by omega
  exact Z5n_
 obtain rfl:k=n:=by omega
 have g3:¬(60:Int)<(k:Int):=by omega
 have g1:¬(k:Int)<(k:Int):=by omega
 have LY:Hid (m=sumL L):=Q1 (by rw[HM.out,K1 (by rw[HL.out];exact K2 _)]);go_wp2_with(with_reducible refine h_A ?_);go_ret;refine⟨⟨_,rfl,fun e=>⟨by omega,?_⟩⟩,rfl⟩;rw[←LY.out];have:=of_decide_eq_false e;omega
def LS0:LS:=⟨0,255,4096,GS.new,[],[]⟩
theorem zds:LG LS0:=⟨GS.inv_new,by show(4096:Nat)≤4096;omega,by show(255:Nat)≤255;omega,by show(0:Nat)<256;omega⟩
theorem zar(l:List (List UInt8))(i:Nat):sumL (l.take i)≤sumL l:=by
 have h:∀a b:List (List UInt8),sumL (a++b)=sumL a+sumL b:=fun a b=>by simp[sumL]
 have h2:=h (l.take i) (l.drop i);rw[List.take_append_drop]at h2;omega
section
def LS.one(ctl:LS→As→LS)(p:LS×List UInt8)(c:UInt8):LS×List UInt8:=
 if p.1.st=0 then
  if p.2++ [c]=hdrB.take (p.2.length+1)then(if p.2.length=7 then({p.1 with st:=1,sent:=p.1.sent++hdrB++ctlB p.1.sz startB},[])else(p.1,p.2++ [c]))
  else({p.1 with st:=5,sent:=p.1.sent++hdrB},p.2++ [c])
 else if zN (p.2++ [c])=false then(p.1.close 501 yp,p.2++ [c])
 else if 12≤(p.2++ [c]).length∧frN (p.2++ [c])≤(p.2++ [c]).length then(p.1.take ctl (frAt (p.2++ [c]) (frN (p.2++ [c]))),(p.2++ [c]).drop (frN (p.2++ [c])))
 else(p.1,p.2++ [c])
def LS.ones(ctl:LS→As→LS):LS×List UInt8→List UInt8→LS×List UInt8
 | p,[]=>p
 | p,c::s=>if p.1.st=5 then p else LS.ones ctl (LS.one ctl p c) s
theorem qw(ctl:LS→As→LS){p:LS×List UInt8}(h:p.1.st=5)(s:List UInt8):LS.ones ctl p s=p:=by
 cases s with
 | nil=>rfl
 | cons c s=>unfold LS.ones;rw[if_pos h]
theorem ZW(ctl:LS→As→LS)(c:UInt8):∀(s:List UInt8) (p:LS×List UInt8),LS.ones ctl p (s++ [c])=if(LS.ones ctl p s).1.st=5 then LS.ones ctl p s else LS.one ctl (LS.ones ctl p s) c
 | [],p=>by
  show(if p.1.st=5 then p else LS.one ctl p c)=_
  rfl
 | d::s,p=>by
  by_cases h:p.1.st=5
  ·rw[qw ctl h,qw ctl h,if_pos h]
  have e:∀x,LS.ones ctl p (d::x)=LS.ones ctl (LS.one ctl p d) x:=fun x=>by rw[LS.ones,if_neg h]
  rw[List.cons_append,e,e];exact ZW ctl c s _
structure Idle(L:LS)(b:List UInt8):Prop where
 hdr:L.st=0→b.length<8∧b=hdrB.take b.length
 fr:L.st≠0→L.st≠5→zN b=true∧¬(12≤b.length∧frN b≤b.length)
section
variable {ctl : LS → As → LS} (hc : CtlOk ctl)
include hc
theorem zby(L:LS)(b:List UInt8)(c:UInt8)(s:List UInt8)(t:List As):LS.one ctl (L.lead s t,b) c=((LS.one ctl (L,b) c).1.lead s t,(LS.one ctl (L,b) c).2):=by
 unfold LS.one;have h1:(L.lead s t).st=L.st:=rfl;simp only[h1];split
 ·split
  ·split
   ·simp[LS.lead]
   rfl
  simp[LS.lead]
 split
 ·rw[LS.lead_close]
 split
 ·rw[XT hc]
 rfl
theorem zbz{L:LS}(h:Idle L b)(h5:L.st≠5)(c:UInt8):Idle (LS.one ctl (L,b) c).1 (LS.one ctl (L,b) c).2:=by
 have Fh:∀M:LS,M.st≠0→Idle M []:=fun M hM=>⟨fun e=>absurd e hM,fun _ _=>⟨by decide,by simp⟩⟩
 have MW:∀(M:LS) (r:List UInt8),M.st=5→Idle M r:=fun M r hM=>⟨fun e=>by omega,fun _ e=>absurd hM e⟩
 by_cases h0:L.st=0
 ·obtain⟨bK,bF⟩:=h.hdr h0;unfold LS.one;simp only;rw[if_pos h0];split
  ·rename_i q
   split
   ·exact Fh _ (by show(1:Nat)≠0;omega)
   refine⟨fun _=>⟨by simp;omega,?_⟩,fun e=>absurd h0 e⟩;rw[Wb];exact q
  exact MW _ _ rfl
 obtain⟨iC,fN⟩:=h.fr h0 h5;unfold LS.one;simp only;rw[if_neg h0];split
 ·exact MW _ _ rfl
 rename_i q
 have q1:zN (b++ [c])=true:=by simpa using q
 split
 ·rename_i k
  have hl:(b++ [c]).length=b.length+1:=by simp
  have hn:frN (b++ [c])=(b++ [c]).length:=by
   exact Z5u_
  rw[hn,q8];exact Fh _ (V8 hc _ _ h0)
 rename_i k
 exact⟨fun e=>absurd e h0,fun _ _=>⟨q1,k⟩⟩
theorem zbA{L:LS}(h:Idle L b)(h5:L.st≠5)(c:UInt8):(LS.feed ctl L b [c]).1=(LS.one ctl (L.core,b) c).1∧((LS.feed ctl L b [c]).1.st≠5→(LS.feed ctl L b [c]).2=(LS.one ctl (L.core,b) c).2):=by
 have e:LS.feed ctl L b [c]=LS.post ctl (L.pre b [c]):=by unfold LS.feed;rw[if_neg h5]
 rw[e];have hl:(b++ [c]).length=b.length+1:=by simp
 have hh8:hdrB.length=8:=rfl;by_cases h0:L.st=0
 ·obtain⟨bK,bF⟩:=h.hdr h0;have hp:L.pre b [c]=LS.beginL L.core (b++ [c]):=by unfold LS.pre;rw[if_pos h0];rfl
  rw[hp];unfold LS.one;simp only;rw[if_pos (show L.core.st=0 from h0)];by_cases q:b++ [c]=hdrB.take (b.length+1)
  ·rw[if_pos q];by_cases q7:b.length=7
   ·rw[if_pos q7];(have e8:b++ [c]=hdrB:=by rw[q,q7];rfl);unfold LS.beginL;rw[if_pos (by rw[e8];rfl),e8];unfold LS.post;simp only;rw[if_neg Wq,show hdrB.drop 8=[]from rfl,Yt];unfold LS.frames;rw[if_neg Wz];exact⟨rfl,fun _=>rfl⟩
   rw[if_neg q7];have e8:(b++ [c]).take 8=b++ [c]:=K1 Wq;unfold LS.beginL;rw[if_neg (fun k=>by rw[e8]at k;have:=congrArg List.length k;omega),if_pos ⟨by omega,by rw[hl];exact q⟩];unfold LS.post;rw[if_pos (.inl (show L.core.st=0 from h0))];exact⟨rfl,fun _=>rfl⟩
  rw[if_neg q];unfold LS.beginL;have e8:(b++ [c]).take 8=b++ [c]:=K1 Wq
  rw[if_neg (fun k=>by
   rw[e8]at k;have h1:=congrArg List.length k;refine q ?_;rw[k,show b.length+1=8 by omega]
   rfl),if_neg (fun k=>q (by have:=k.2;rw[hl]at this;exact this))]
  unfold LS.post;rw[if_pos (.inr rfl)];exact⟨rfl,fun _=>rfl⟩
 obtain⟨iC,fN⟩:=h.fr h0 h5;have hp:L.pre b [c]=(L.core,b++ [c]):=by unfold LS.pre;rw[if_neg h0];rfl
 rw[hp];have hs:L.core.st=L.st:=rfl;unfold LS.one LS.post;simp only;rw[if_neg (show ¬L.core.st=0 from h0),if_neg Wq];by_cases q:zN (b++ [c])=false
 ·rw[if_pos q,qz q];unfold LS.frames;rw[if_pos ⟨by simp,(show L.core.st≠5 from h5)⟩];exact⟨rfl,fun _=>rfl⟩
 rw[if_neg q];have q1:zN (b++ [c])=true:=by simpa using q
 by_cases k:12≤(b++ [c]).length∧frN (b++ [c])≤(b++ [c]).length
 ·rw[if_pos k]
  have hn:frN (b++ [c])=(b++ [c]).length:=by
   exact Z5u_
  have hd:(b++ [c]).drop (frN (b++ [c]))=[]:=by rw[hn,q8]
  rw[qh q1 k.1 k.2,hd,Yt];unfold LS.frames;rw[if_neg Wz,LS.goes_cons ctl L.core _ [] h5];refine⟨rfl,fun _=>?_⟩;exact hd
 rw[if_neg k]
 have Cm:zu (b++ [c])=([],0,0):=by
  by_cases gc:(b++ [c]).length<12
  ·exact xd q1 gc
  exact qg q1 Wq Wq
 rw[Cm];unfold LS.frames;rw[if_neg Wz];exact⟨rfl,fun _=>rfl⟩
theorem XQ{L:LS}(h:Idle L b)(s:List UInt8):(LS.ones ctl (L.core,b) s).1=(LS.feed ctl L b s).1∧((LS.feed ctl L b s).1.st≠5→(LS.ones ctl (L.core,b) s).2=(LS.feed ctl L b s).2)∧Idle (LS.ones ctl (L.core,b) s).1 (LS.ones ctl (L.core,b) s).2:=by
 by_cases h5:L.st=5
 ·have e:LS.feed ctl L b s=(L.core,b):=by unfold LS.feed;rw[if_pos h5];rfl
  rw[e,qw ctl (show L.core.st=5 from h5)];exact⟨rfl,fun _=>rfl,⟨h.hdr,h.fr⟩⟩
 induction hn:s.length generalizing s with
 | zero=>
  obtain rfl:=List.eq_nil_of_length_eq_zero hn
  have e:LS.feed ctl L b []=(L.core,b):=by
   unfold LS.feed;rw[if_neg h5];unfold LS.pre;by_cases h0:L.st=0
   ·obtain⟨bK,bF⟩:=h.hdr h0;rw[if_pos h0,q9];have h8:b.take 8=b:=K1 Wq;unfold LS.beginL;rw[if_neg (fun k=>by rw[h8]at k;have:=congrArg List.length k;have:hdrB.length=8:=rfl;omega),if_pos ⟨bK,bF⟩];unfold LS.post;rw[if_pos (.inl (show L.core.st=0 from h0))];rfl
   obtain⟨iC,fN⟩:=h.fr h0 h5;rw[if_neg h0,q9]
   have Cm:zu b=([],0,0):=by
    by_cases gc:b.length<12
    ·exact xd iC gc
    exact qg iC Wq Wq
   unfold LS.post;simp only;rw[if_neg Wq,Cm];unfold LS.frames;rw[if_neg Wz];rfl
  rw[e]
  exact⟨rfl,fun _=>rfl,⟨h.hdr,h.fr⟩⟩
 | succ n ih=>
  obtain⟨s,c,rfl⟩:∃t c,s=t++ [c]:=⟨s.dropLast,s.getLast (by intro e;rw[e]at hn;cases hn),(List.dropLast_concat_getLast _).symm⟩
  obtain⟨i1,i2,i3⟩:=ih s (by simpa using hn);obtain⟨a1,a2⟩:=zbD hc L b s [c];rw[ZW];generalize LS.ones ctl (L.core,b) s=q at*;generalize LS.feed ctl L b s=F at*;by_cases q5:q.1.st=5
  ·rw[if_pos q5];(have e:LS.feed ctl F.1 F.2 [c]=(F.1.core,F.2):=by unfold LS.feed;rw[if_pos (by rw[←i1];exact q5)];rfl);rw[e]at a1;(have WT:(LS.feed ctl L b (s++ [c])).1=F.1:=by rw[a1];exact LS.core_lead _);rw[WT];exact⟨i1,fun k=>absurd (by rw[←i1];exact q5) k,i3⟩
  rw[if_neg q5];have F5:F.1.st≠5:=by rw[←i1];exact q5
  have e2:=i2 F5;have hq:q=(F.1,F.2):=Prod.ext i1 e2;rw[hq]at i3 ⊢;obtain⟨o1,o2⟩:=zbA hc i3 F5 c;have ol:=zby hc F.1.core F.2 c F.1.sent F.1.told;rw[LS.core_lead]at ol;refine⟨?_,fun k=>?_,zbz hc i3 F5 c⟩
  ·rw[a1,o1,ol]
  rw[a2 k,ol];refine(o2 ?_).symm;rw[a1]at k;exact k
end
end
structure RlX(w:World)(B:Nat)(U T:Nat→Prop)(lb gb:Nat)(l:List Fr)(b:List UInt8)(L:LS)(TT:Option Addr)(tc:Nat)(th:List TAs)(F:Nat→Prop):Prop where
 box:Box w lb 38 #[.int .i64 (L.st:Int),.string (str b),.pointer (some ⟨gb,0,none⟩),.int .u64 (L.ch:Int),.int .u64 (L.sz:Int),.string (str L.sent),.slice TT L.told.length tc]
 row:OwnT w B TT L.told.length tc th
 tl:L.told=th.map (·.a)
 el:∀x∈th,OwnG w 0 x.A x.a.segs.length x.c x.a.segs∧∀k,blk x.A=some k→T k
 ga:RGa w F gb L.g l
 fu:∀k,F k→U k
 tt:∀k,blk TT=some k→U k∧k≠lb∧¬F k
 fl:¬F lb
 lb:U lb
 size:B≤w.heap.size
 uB:∀b,U b→B≤b∧b<w.heap.size
 tB:∀b,T b→b<w.heap.size
 ut:∀b,T b→¬U b
def RlM(w:World)(B:Nat)(U T:Nat→Prop)(lb gb:Nat)(l:List Fr)(b:List UInt8)(L:LS):Prop:=∃TT tc th F,RlX w B U T lb gb l b L TT tc th F
theorem RlX.keep{l:List Fr}{L:LS}{th:List TAs}(h:RlX w B U T lb gb l b L TT tc th F){G:Nat→Prop}(hk:KeepF G w w')(hU:∀k,U k→¬G k)(hT:∀k,T k→¬G k):RlX w' B U T lb gb l b L TT tc th F where
 box:=zU h.box hk (hU _ h.lb)
 row:=zw h.row hk (fun k e=>hU _ (h.tt k e).1)
 tl:=h.tl
 el:=fun x hx=>⟨zw (h.el x hx).1 hk (fun k e=>hT _ ((h.el x hx).2 k e)),(h.el x hx).2⟩
 ga:=h.ga.keep hk (fun k e=>hU _ (h.fu k e))
 fu:=h.fu
 tt:=h.tt
 fl:=h.fl
 lb:=h.lb
 size:=KS h.size hk.1
 uB:=fun b hb=>⟨(h.uB b hb).1,KL (h.uB b hb).2 hk.1⟩
 tB:=fun b hb=>KL (h.tB b hb) hk.1
 ut:=h.ut
theorem RlX.below{l:List Fr}{L:LS}{th:List TAs}(h:RlX w B U T lb gb l b L TT tc th F)(hB:Below w.heap.size w w'):RlX w' B U T lb gb l b L TT tc th F:=
 h.keep (KeepF.below (F:=fun _=>False) hB) (fun _ _ e=>e) (fun _ _ e=>e)
theorem RlX.put{l:List Fr}{b':List UInt8}{L L':LS}{th:List TAs}(h:RlX w B U T lb gb l b L TT tc th F)(hg:w.grownBy w' (some lb))(h1:L'.g=L.g)(h2:L'.told=L.told)
  (hb:Box w' lb 38 #[.int .i64 (L'.st:Int),.string (str b'),.pointer (some ⟨gb,0,none⟩),.int .u64 (L'.ch:Int),.int .u64 (L'.sz:Int),.string (str L'.sent),.slice TT L.told.length tc]):RlX w' B U T lb gb l b' L' TT tc th F:=by
 have hk:KeepF (fun k=>k=lb) w w':=.grown hg (fun g e=>.inl uQ);refine⟨by rw[h2];exact hb,by rw[h2];exact zw h.row hk (fun k e=>(h.tt k e).2.1),by rw[h2];exact h.tl,fun x hx=>⟨zw (h.el x hx).1 hk (fun k e e2=>h.ut k ((h.el x hx).2 k e) (e2▸h.lb)),(h.el x hx).2⟩,?_,h.fu,h.tt,h.fl,h.lb,KS h.size hk.1,fun b hb=>⟨(h.uB b hb).1,KL (h.uB b hb).2 hk.1⟩,fun b hb=>KL (h.tB b hb) hk.1,h.ut⟩;rw[h1];exact h.ga.keep hk (fun k e e2=>h.fl (e2▸e))
def RStep(w:World)(B:Nat)(U T:Nat→Prop)(lb gb:Nat)(l:List Fr)(b:List UInt8)(L:LS)(w':World):Prop:=
 ∃U' T',RlM w' B U' T' lb gb l b L∧KeepF U w w'∧(∀k,U' k→U k∨w.heap.size≤k)∧(∀k,T' k→T k∨U k∨w.heap.size≤k)
theorem RStep.of{w1:World}{U1 T1:Nat→Prop}{l:List Fr}{L:LS}(hk:KeepF U w w1)(hU:∀k,U1 k→U k∨w.heap.size≤k)(hT:∀k,T1 k→T k∨U k∨w.heap.size≤k)(h:RStep w1 B U1 T1 lb gb l b L w2):RStep w B U T lb gb l b L w2:=by
 exact Z39_
theorem RStep.from{w1:World}{l:List Fr}{L:LS}(hB:Below w.heap.size w w1)(h:RStep w1 B U T lb gb l b L w2):RStep w B U T lb gb l b L w2:=
 .of (.below hB) (fun _ h=>.inl h) (fun _ h=>.inl h) h
theorem RStep.mk{l:List Fr}{L:LS}{th:List TAs}(h:RlX w' B U T lb gb l b L TT tc th F)(hk:KeepF U w w'):RStep w B U T lb gb l b L w':=
 ⟨U,T,⟨TT,tc,th,F,h⟩,hk,fun _ h=>.inl h,fun _ h=>.inl h⟩
theorem CtlG.r{code:Nat}{L:List SA}{bs:List UInt8}(h:CtlG code L bs):Xw code L bs:=za5 h.cd h.n h.l h.g h.p h.k
theorem zdv:Xw 1 [⟨true,0,[112,111,115,116,104,111,117,115,101]⟩] startB:=ctlg1.r
theorem zdw:Xw 5 [⟨true,255,[]⟩,⟨true,4096,[]⟩] vX:=ctlg5.r
theorem zdx:Xw 8 [] Zp:=ctlg8.r
theorem zcU:Xw 12 [] Zq:=ctlg12.r
theorem zcV(code:Nat)(text:List UInt8)(hc:code<65536)(ht:text.length<256):Xw 11 [⟨true,code,[]⟩,⟨true,0,text⟩] (qx code text):=(zbN code text hc ht).r
theorem QK{o:Oper}{ev:Operand→Value}{x y:Operand}{n1 n2:Int}{s1 s2:ByteArray}(ho:o.op= .buildSlice 82 2 #[(0,x),(1,y)])(hx:ev x= .agg #[.bool true,.int .u64 (n1),.string (s1),.int .u32 0,.string ⟨#[]⟩,.string ⟨#[]⟩,.slice none 0 0,.int .u8 0,.int .u64 0,.string ⟨#[]⟩,.slice none 0 0,.slice none 0 0])(hy:ev y= .agg #[.bool true,.int .u64 (n2),.string (s2),.int .u32 0,.string ⟨#[]⟩,.string ⟨#[]⟩,.slice none 0 0,.int .u8 0,.int .u64 0,.string ⟨#[]⟩,.slice none 0 0,.slice none 0 0]):
  (execOp ev o).run prog w= .ok (.value (.slice (some ⟨w.heap.size,0,none⟩) 2 2)) (w.alloc (.cells #[.bool true,.int .u64 (n1),.string (s1),.int .u32 0,.string ⟨#[]⟩,.string ⟨#[]⟩,.slice none 0 0,.int .u8 0,.int .u64 0,.string ⟨#[]⟩,.slice none 0 0,.slice none 0 0,.bool true,.int .u64 (n2),.string (s2),.int .u32 0,.string ⟨#[]⟩,.string ⟨#[]⟩,.slice none 0 0,.int .u8 0,.int .u64 0,.string ⟨#[]⟩,.slice none 0 0,.slice none 0 0] 80)):=by
 unfold execOp;simp only[ho];go_simp
theorem zay{o:Oper}{ev:Operand→Value}{x:Operand}{n1:Int}{s1:ByteArray}(ho:o.op= .buildSlice 82 1 #[(0,x)])(hx:ev x= .agg #[.bool true,.int .u64 (n1),.string (s1),.int .u32 0,.string ⟨#[]⟩,.string ⟨#[]⟩,.slice none 0 0,.int .u8 0,.int .u64 0,.string ⟨#[]⟩,.slice none 0 0,.slice none 0 0])(_h:x=x):
  (execOp ev o).run prog w= .ok (.value (.slice (some ⟨w.heap.size,0,none⟩) 1 1)) (w.alloc (.cells #[.bool true,.int .u64 (n1),.string (s1),.int .u32 0,.string ⟨#[]⟩,.string ⟨#[]⟩,.slice none 0 0,.int .u8 0,.int .u64 0,.string ⟨#[]⟩,.slice none 0 0,.slice none 0 0] 80)):=by
 unfold execOp;simp only[ho];go_simp
theorem yV(code:Nat)(text:List UInt8)(oF:code<65536)(oZ:text.length<256){l:List Fr}{L:LS}(h:RlM w B U T lb gb l b L)(Bw:L.sz≤1000000)(hs:L.sent.length≤10000000000):
  Calls prog 34 #[.pointer (some ⟨lb,0,none⟩),.int .u64 (code:Int),.string (str text)] w fun e w'=>e= .returned (.tuple #[])∧RStep w B U T lb gb l b (L.close code text) w':=by
 exact Zg_
def GetR(w0:World)(b:List UInt8)(m:Mt)(er:Int):Prop:=∀(A:Option Addr) (n c:Nat) (W:World),Below w0.heap.size w0 W→RdB W W.heap.size A n c b→
 Calls prog 91 #[.slice A n c] W fun e w'=>∃A2 c2,e= .returned (.tuple #[.agg (mtV m A2 c2),.int .i64 er])∧RM w' (FN W.heap.size w') m A2 c2∧Below W.heap.size W w'
theorem YY(a:As)(sg:Sg)(rest:List Sg)(gw:a.segs=sg::rest)(m:Mt)(er:Int)(tV:GetR w sg.load m er)(bQ:er=0→m.args.length=(yv (ym m.cls m.code)).length)(A:Option Addr)(c:Nat){l:List Fr}{L:LS}
  (h:RlM w B U T lb gb l b L) (hO:OwnG w 0 A a.segs.length c a.segs) (Gn:sg.load.length≤1000000) (Bw:L.sz≤1000000) (hs:L.sent.length≤10000000000):
  Calls prog 58 #[.pointer (some ⟨lb,0,none⟩),.agg (asV a.chan a.track A a.segs.length c)] w fun e w'=>e= .returned (.tuple #[])∧RStep w B U T lb gb l b (L.ctlM a m er) w':=by
 obtain⟨TT,tc,th,F,h⟩:=h;unfold asV;obtain⟨N,hN⟩:∃N,N=a.segs.length:=⟨_,rfl⟩
 rw[←hN]at hO ⊢;have tF:0<N:=by rw[hN,gw];simp
 rw[gw]at hO;obtain⟨ab,off,rfl,Bo,bI,bC⟩:=xF yW hO.rd tF;have z1:=bC 1 _ rfl;simp only[Vy,Vx,q4]at z1;clear hN gw bI bC hO;have g0:(0:Int)<(N:Int):=by omega
 obtain⟨xb,w0,bD,bo,hX,Hy⟩:=zq w #[.int .u16 (a.chan:Int),.int .u8 (a.track:Int),.slice (some ⟨ab,off,none⟩) N c] 42;have h0:=h.below Hy;go_enter func58,ntmps58;go_upto_region 1 with fail;rw[←bD,←bo];clear bD bo;have x2:=hX.c2;have z2:=(Hy.cell (p:=⟨ab,off+1,none⟩) (by first|exact Bo|omega)).trans z1;clear z1;go_wp2_with(first|(with_reducible refine zZ ?_)|(with_reducible refine yr ?_)|(with_reducible refine yq ?_)|(with_reducible refine yg ?_)|(with_reducible refine yt (s:=9) (t:=55) ?_));refine zc (QU underlying9 underlying55 underlying5 rfl rfl rfl (l:=sg.load) Wq ?_);intro c3 w3 cj Hh;have gx:=Hy.trans (Hh.mono Hy.size);have fV:=tV _ _ c3 w3 gx cj;clear tV x2 z2 cj;go_wp2_with(with_reducible refine h_A ?_);refine fV.mono ?_;rintro e w4 ⟨A2,c2,rfl,mi,Hn⟩;clear fV;unfold mtV;obtain⟨rb,w5,bD,bo,hR,bw⟩:=yR w4 #[.int .u8 0,.int .u8 0,.bool false,.slice none 0 0] 106;have gF:=mi.mono (fun g hg=>hg.2)
 have S0:Hid (∀g,blk A2=some g→0<m.args.length→w.heap.size≤g):=Q1 fun g hg h0=>by
  obtain⟨xs,e,h1,h2⟩:=mi.row;exact KS gx.size (h1.2 h0 g hg).1
 have pi:=Hh.trans (Hn.mono Hh.size);have mB:=Hy.trans (pi.mono Hy.size);have Lr:w4.heap.size≤rb:=by rw[bD];exact K2 _
 clear mi Hh Hn gx;go_wp2_with(with_reducible refine h_B ?_);rw[←bD,←bo];clear bD bo;refine zc (zn (v:=.agg #[.int .u8 (m.cls:Int),.int .u8 (m.code:Int),.bool m.sync,.slice A2 m.args.length c2]) (vs:=[.int .u8 (m.cls:Int),.int .u8 (m.code:Int),.bool m.sync,.slice A2 m.args.length c2]) rfl rfl rfl rfl hR rfl Wj Wz qO #[.int .u8 (m.cls:Int),.int .u8 (m.code:Int),.bool m.sync,.slice A2 m.args.length c2] Wz ?_);intro wm DL bz fc;clear fc;have mL:Below w4.heap.size w4 wm:=bw.grown bz bw.size Wx;have hB:=mB.trans (mL.mono mB.size);have i9:=hX.below (pi.trans (mL.mono pi.size));have p8:=gF.up mL;replace h0:=h.below hB;have hht:=h.box.lt;have hhh:w.heap.size≤rb:=KS mB.size Lr;have y0:=DL.c0;have y1:=DL.c1;have y3:=DL.c3;have x1:=i9.c1;have c0:=h0.box.c0;clear h hR bw bz pi mB mL gF hX Hy;go_upto_region 2 with fail;by_cases q1:a.track=0
 ·have d1:((a.track:Int)!=0)=false:=by rw[q1];rfl
  by_cases q2:er=0
  ·(have d2:(er !=0)=false:=by rw[q2];rfl);by_cases q3:m.cls=1
   ·(have d3:((m.cls:Int)!=1)=false:=by rw[q3];rfl);have HQ:Hid (a.track=0∧er=0∧m.cls=1):=Q1 ⟨q1,q2,q3⟩
    have B5:L.ctlM a m er=if m.code=2∧L.st=1 then{L.send vX with st:=2}else if m.code=6∧L.st=2 then L.tuned (m.args.getD 0 (ag0 false)).n (m.args.getD 1 (ag0 false)).n else if m.code=7∧L.st=3 then L.opened (m.args.getD 0 (ag0 false)).s else if m.code=11 then{L.send Zq with st:=5}else L.close 501 yo:=by
     unfold LS.ctlM ctlK;rw[if_neg (by rw[q1,q2];simp),q3];by_cases e2:m.code=2
     ·simp[e2]
     by_cases e6:m.code=6
     ·simp[e6]
     by_cases e7:m.code=7
     ·simp[e7]
     by_cases Ur:m.code=11
     ·simp[Ur]
     simp[e2,e6,e7,Ur]
    have HC:=Q1 B5;have lc:Hid (m.args.length=(yv (ym 1 m.code)).length):=Q1 (by rw[←q3];exact bQ q2);clear q1 q2 q3 B5 bQ;go_upto_region 5 with fail;clear d1 d2 d3 x1;(obtain⟨Y,hY⟩:∃Y,Y=decide (m.code=2∧L.st=1):=⟨_,rfl⟩);go_upto_region 5 with fail;go_cut [32]from 33 (fun s wx=>s= .bool Y∧wm=wx)
    case first=>
     exact Z26_
    obtain⟨rfl,rfl⟩:=hcut;have HY:=Q1 hY;clear hY
    cases Y with
    | true=>
     as_aux_lemma=>
     have HR:Hid (L.ctlM a m er={L.send vX with st:=2}):=Q1 (by rw[HC.out,if_pos (of_decide_eq_true HY.out.symm)]);(have dC:∀W,Calls prog 30 #[.int .u64 255,.string ⟨#[]⟩] W fun e w'=>e= .returned (.agg #[.bool true,.int .u64 (255),.string (⟨#[]⟩),.int .u32 0,.string ⟨#[]⟩,.string ⟨#[]⟩,.slice none 0 0,.int .u8 0,.int .u64 0,.string ⟨#[]⟩,.slice none 0 0,.slice none 0 0])∧Below W.heap.size W w':=fun W=>jq 255 [] W);(have db:∀W,Calls prog 30 #[.int .u64 4096,.string ⟨#[]⟩] W fun e w'=>e= .returned (.agg #[.bool true,.int .u64 (4096),.string (⟨#[]⟩),.int .u32 0,.string ⟨#[]⟩,.string ⟨#[]⟩,.slice none 0 0,.int .u8 0,.int .u64 0,.string ⟨#[]⟩,.slice none 0 0,.slice none 0 0])∧Below W.heap.size W w':=fun W=>jq 4096 [] W);(have fh:∀(W:World) (A:Option Addr),Rd W W.heap.size 12 A 2 2 (rowC saC [⟨true,255,[]⟩,⟨true,4096,[]⟩])→RlX W B U T lb gb l b L TT tc th F→Calls prog 29 #[.pointer (some ⟨lb,0,none⟩),.int .u8 5,.slice A 2 2] W fun e w'=>e= .returned (.string (str (ctlB L.sz vX)))∧Below W.heap.size W w':=fun W A hr hx=>j4 5 _ _ zdw WJ lb L.sz A 2 2 W hr (hx.box.cell (j:=4) rfl) Bw);have bC:(ctlB L.sz vX).length≤10000:=KS (jj _ _) WJ;(obtain⟨cb,Bm⟩:∃cb,cb=ctlB L.sz vX:=⟨_,rfl⟩);rw[←Bm]at fh bC;have pZ:=Q1 Bm;clear Bm;have BZ:=zi L.sent;have cm:=zi cb;(have o4:(9223372036854775807<L.sent.length+cb.length)=False:=by simp;omega);go_upto_region 6 with fail;go_cut []from 43 (fun wx=>RlX wx B U T lb gb l b {L with sent:=L.sent++cb} TT tc th F∧KeepF U w wx)
     case first=>
      clear y0 y1 y3 c0;have B0:Below (wm).heap.size wm (wm).drew:=za (Q2 _ wm) 1;replace h0:=h0.below B0;replace hB:=hB.trans (B0.mono hB.size);clear B0;refine jb 13 (fun W:World=>W.cell? ⟨lb,5,none⟩=some (.string (str L.sent))) Wj ?_;have hS:=h0.box.c5;simp only[kI,List.getElem_cons_succ,q4]at hS;generalize(wm).drew=wd at*;refine yi 0 hS ?_;(try simp only[g_S]);refine yi 1 hS ?_;(try simp only[g_S]);refine yi 2 hS ?_;(try simp only[g_S]);refine yi 3 hS ?_;(try simp only[g_S]);refine yi 4 hS ?_;(try simp only[g_S]);refine yi 5 hS ?_;(try simp only[g_S]);refine yH 6 rfl Wj rfl (fun K hK=>?_);go_simp
      (with_reducible refine(dC _).mono ?_)
      rintro e w1 ⟨rfl,Ha⟩;replace hS:=(Ha.cell (p:=⟨lb,5,none⟩) h0.box.lt).trans hS;refine hK _ _ (fun _=>hS) ?_;clear hK K;replace h0:=h0.below Ha;replace hB:=hB.trans (Ha.mono hB.size);clear Ha;(try simp only[g_S]);refine yH 7 rfl Wj rfl (fun K hK=>?_);go_simp
      (with_reducible refine(db _).mono ?_)
      rintro e w2 ⟨rfl,Ha⟩;replace hS:=(Ha.cell (p:=⟨lb,5,none⟩) h0.box.lt).trans hS;refine hK _ _ (fun _=>hS) ?_;clear hK K;replace h0:=h0.below Ha;replace hB:=hB.trans (Ha.mono hB.size);clear Ha;(try simp only[g_S]);refine yH 8 rfl Wj rfl (fun K hK=>?_);obtain⟨ab,w3,bD,bo,hG,Ha⟩:=zq w2 #[.bool true,.int .u64 (255),.string (⟨#[]⟩),.int .u32 0,.string ⟨#[]⟩,.string ⟨#[]⟩,.slice none 0 0,.int .u8 0,.int .u64 0,.string ⟨#[]⟩,.slice none 0 0,.slice none 0 0,.bool true,.int .u64 (4096),.string (⟨#[]⟩),.int .u32 0,.string ⟨#[]⟩,.string ⟨#[]⟩,.slice none 0 0,.int .u8 0,.int .u64 0,.string ⟨#[]⟩,.slice none 0 0,.slice none 0 0] 80;have bZ:=yn (w:=w2) (w2).heap.size #[.bool true,.int .u64 (255),.string (⟨#[]⟩),.int .u32 0,.string ⟨#[]⟩,.string ⟨#[]⟩,.slice none 0 0,.int .u8 0,.int .u64 0,.string ⟨#[]⟩,.slice none 0 0,.slice none 0 0,.bool true,.int .u64 (4096),.string (⟨#[]⟩),.int .u32 0,.string ⟨#[]⟩,.string ⟨#[]⟩,.slice none 0 0,.int .u8 0,.int .u64 0,.string ⟨#[]⟩,.slice none 0 0,.slice none 0 0] 80 2 (K2 _) WX (size:=12) rfl Wq;rw[←bo,←bD]at bZ;have fa:Rd w3 w3.heap.size 12 (some ⟨ab,0,none⟩) 2 2 (rowC saC [⟨true,255,[]⟩,⟨true,4096,[]⟩]):=bZ.rd;refine YW (QK rfl rfl rfl) ?_;rw[←bo,←bD];replace hS:=(Ha.cell (p:=⟨lb,5,none⟩) h0.box.lt).trans hS;refine hK _ _ (fun _=>hS) ?_;clear hK K bZ bo bD hG;replace h0:=h0.below Ha;replace hB:=hB.trans (Ha.mono hB.size);clear Ha;(try simp only[g_S]);refine yH 9 rfl Wj rfl (fun K hK=>?_);have fy:=fh w3 _ fa h0;go_simp
      (with_reducible refine(fy).mono ?_)
      rintro e w4 ⟨rfl,Ha⟩;replace hS:=(Ha.cell (p:=⟨lb,5,none⟩) h0.box.lt).trans hS;refine hK _ _ (fun _=>hS) ?_;clear hK K;replace h0:=h0.below Ha;replace hB:=hB.trans (Ha.mono hB.size);clear Ha;(try simp only[g_S]);clear fy;refine yi 10 hS ?_;(try simp only[g_S]);simp only[jl];refine yi 11 hS ?_;(try simp only[g_S]);refine yi 12 hS ?_;(try simp only[g_S]);refine yH 13 rfl Wj rfl (fun K hK=>?_);exact Z49_
     obtain⟨h1,dM⟩:=hcut;clear h0;go_wp2_with(with_reducible refine h_B ?_);refine zc (zn (v:=.int .i64 2) (vs:=[.int .i64 2]) rfl rfl rfl rfl h1.box rfl Wj Wz WZ #[.int .i64 (2),.string (str b),.pointer (some ⟨gb,0,none⟩),.int .u64 (L.ch:Int),.int .u64 (L.sz:Int),.string (str (L.sent++cb)),.slice TT L.told.length tc] Wz ?_);intro w6 di bz fc;clear fc;have h2:=h1.put (L':={L with sent:=L.sent++cb,st:=2}) bz rfl rfl di;have Bk:=dM.trans (.grown (F:=U) bz (fun g e=>.inl UX)) (fun _ h=>.inl h);rw[pZ.out]at h2;clear h1 dM;go_wp2_with(with_reducible refine h_B ?_);go_end0
     exact⟨rfl,by rw[HR.out];exact RStep.mk h2 Bk⟩
    | false=>
     have cL:=Q1 (HC.out.trans (if_neg (of_decide_eq_false HY.out.symm)));clear HC HY;(obtain⟨Y,hY⟩:∃Y,Y=decide (m.code=6∧L.st=2):=⟨_,rfl⟩);go_upto_region 8 with fail;go_cut [59]from 60 (fun s wx=>s= .bool Y∧wm=wx)
     case first=>
      have qqau:=();exact Z26_
     obtain⟨rfl,rfl⟩:=hcut;have HY:=Q1 hY;clear hY
     cases Y with
     | true=>
      as_aux_lemma=>
      have ry:=Q1 (cL.out.trans (if_pos (of_decide_eq_true HY.out.symm)));(have cN:m.args.length=2:=by rw[lc.out,(of_decide_eq_true HY.out.symm).1];rfl);obtain⟨Ls,Ax,hx,rfl,ra,hc⟩:=p8.elem (i:=0) Wq;obtain⟨ab2,haf,CL,ET,U9,ca⟩:=p8.elem (i:=1) Wq;(injection ET with ET);(injection ET with q1 q2 _);subst q1 q2;(have e0:m.args[0]=m.args.getD 0 (ag0 false):=by rw[q6,K0 Wq];rfl);(have e1:m.args[1]=m.args.getD 1 (ag0 false):=by rw[q6,K0 Wq];rfl);have z1:=hc wm (Q2 _ _) 1 _ rfl;have z2:=ca wm (Q2 _ _) 1 _ rfl;rw[e0]at z1;rw[e1]at z2;simp only[Vy,Vx,Nat.one_mul]at z1 z2;(obtain⟨x,Gt⟩:∃x,x=(m.args.getD 0 (ag0 false)).n:=⟨_,rfl⟩);(obtain⟨y,GT⟩:∃x,x=(m.args.getD 1 (ag0 false)).n:=⟨_,rfl⟩);rw[←Gt]at z1;rw[←GT]at z2;have wO:Hid (L.ctlM a m er=L.tuned x y):=Q1 (by rw[ry.out,Gt,GT]);rw[cN]at DL y3;have P9:=World.block_lt_of_cell? _ _ z1;have am:=S0.out Ls rfl Wq;clear hc ca e0 e1 Gt GT ra U9 p8 ry cL lc cN;by_cases q1:255<x
      ·have qqbh:=();exact Z2g_
      (have d1:¬(255:Int)<(x:Int):=by omega);by_cases q2:y<256
      ·have qqbi:=();exact Z2g_
      (have d2:¬(y:Int)<256:=by omega);by_cases q3:4096<y
      ·exact Z2g_
      have HR:=Q1 (wO.out.trans (show L.tuned x y={L with ch:=x,sz:=y,st:=3} by unfold LS.tuned;rw[if_neg Wq]));(have d3:¬(4096:Int)<(y:Int):=by omega);clear q1 q2 q3;go_wp2_with(with_reducible refine h_B ?_);refine zc (zn (j:=3) (v:=.int .u64 (x:Int)) (vs:=[.int .u64 (x:Int)]) rfl rfl rfl rfl h0.box rfl Wj Wz WZ #[.int .i64 ((L.st:Int)),.string (str b),.pointer (some ⟨gb,0,none⟩),.int .u64 (x:Int),.int .u64 (L.sz:Int),.string (str (L.sent)),.slice TT L.told.length tc] Wz ?_);intro w6 di bz fc;clear fc;have h1:=h0.put (L':={L with ch:=x}) bz rfl rfl di;have dM:=(KeepF.below (F:=U) hB).trans (.grown (F:=U) bz (fun g e=>.inl Ux)) (fun _ h=>.inl h);have iM:=DL.grown bz uq;have u3:=iM.c3;have u2:=(bz.cell_far ⟨Ls,Ax+12+1,none⟩ P9 (fun e=>by injection e with e;exact absurd (show Ls=lb from e) Wq)).trans z2;clear h0 y0 y1 y3 c0 z1 z2 DL;go_wp2_with(with_reducible refine h_B ?_);refine zc (zn (j:=4) (v:=.int .u64 (y:Int)) (vs:=[.int .u64 (y:Int)]) rfl rfl rfl rfl h1.box rfl Wj Wz WZ #[.int .i64 ((L.st:Int)),.string (str b),.pointer (some ⟨gb,0,none⟩),.int .u64 (x:Int),.int .u64 (y:Int),.string (str (L.sent)),.slice TT L.told.length tc] Wz ?_);intro w7 iR H7 uv;clear uv u2 u3;have h2:=h1.put (L':={L with ch:=x,sz:=y}) H7 rfl rfl iR;have Bk:=dM.trans (.grown (F:=U) H7 (fun g e=>.inl UX)) (fun _ h=>.inl h);go_wp2_with(with_reducible refine h_B ?_);refine zc (zn (v:=.int .i64 3) (vs:=[.int .i64 3]) rfl rfl rfl rfl h2.box rfl Wj Wz WZ #[.int .i64 (3),.string (str b),.pointer (some ⟨gb,0,none⟩),.int .u64 (x:Int),.int .u64 (y:Int),.string (str (L.sent)),.slice TT L.told.length tc] Wz ?_);intro w8 tg H5 Dw;clear Dw;have h3:=h2.put (L':={L with ch:=x,sz:=y,st:=3}) H5 rfl rfl tg;have fo:=Bk.trans (.grown (F:=U) H5 (fun g e=>.inl (by injection e with e;rw[←e];exact h2.lb))) (fun _ h=>.inl h);go_wp2_with(with_reducible refine h_B ?_);go_end0
      exact⟨rfl,by rw[HR.out];exact RStep.mk h3 fo⟩
     | false=>
      have ry:=Q1 (cL.out.trans (if_neg (of_decide_eq_false HY.out.symm)));clear cL HY;(obtain⟨Y,hY⟩:∃Y,Y=decide (m.code=7∧L.st=3):=⟨_,rfl⟩);go_upto_region 14 with fail;go_cut [113]from 114 (fun s wx=>s= .bool Y∧wm=wx)
      case first=>
       have qqav:=();exact Z26_
      obtain⟨rfl,rfl⟩:=hcut;have HY:=Q1 hY;clear hY
      cases Y with
      | true=>
       as_aux_lemma=>
       have wO:=Q1 (ry.out.trans (if_pos (of_decide_eq_true HY.out.symm)));(have cN:m.args.length=1:=by rw[lc.out,(of_decide_eq_true HY.out.symm).1];rfl);obtain⟨Ls,Ax,hx,rfl,ra,hc⟩:=p8.elem (i:=0) Wq;(have e0:m.args[0]=m.args.getD 0 (ag0 false):=by rw[q6,K0 Wq];rfl);have z1:=hc wm (Q2 _ _) 2 _ rfl;rw[e0]at z1;simp only[Vy,Vx]at z1;(obtain⟨s,GA⟩:∃s,s=(m.args.getD 0 (ag0 false)).s:=⟨_,rfl⟩);rw[←GA]at z1;have T5:Hid (L.ctlM a m er=L.opened s):=Q1 (by rw[wO.out,GA]);rw[cN]at DL y3;clear hc e0 GA ra p8 wO ry lc cN HY;(obtain⟨Y,hY⟩:∃Y,Y=decide (s≠ []∧s≠ [47]):=⟨_,rfl⟩);go_upto_region 15 with fail;go_cut [137]from 124 (fun s wx=>s= .bool Y∧wm=wx)
       case first=>
        by_cases q1:s=[]
        ·have l6:Hid (Y=false):=Q1 (by rw[hY];simp[q1]);subst q1;(have d0:(str ([]:List UInt8)).toList=[]:=by rw[zl]);clear hY;go_wp2_with fail;go_meet
         case rel=>exact⟨by rw[l6.out],rfl⟩
        have qq94:=();exact Z1r_
       obtain⟨rfl,rfl⟩:=hcut;have HY:=Q1 hY;clear hY
       cases Y with
       | true=>
        exact Z2i_
       | false=>
        have qq32:=()
        exact Zg_
      | false=>
       have wO:=Q1 (ry.out.trans (if_neg (of_decide_eq_false HY.out.symm)));clear ry HY
       as_aux_lemma=>
       by_cases q1:m.code=11
       ·have qq34:=();exact Zg_
       have qqb4:=();exact Z2a_
   exact Z2a_
  have qqb2:=();exact Z2a_
 have qqb3:=();exact Z2a_
theorem RlX.gath{l l':List Fr}{L:LS}{th:List TAs}{F':Nat→Prop}{g':GS}(h:RlX w B U T lb gb l b L TT tc th F)(hF:∀k,F' k→F k∨w.heap.size≤k)(cU:RGa w' F' gb g' l')(hk:KeepF F w w'):
  RlX w' B (fun k=>(U k∧¬F k)∨F' k) T lb gb l' b {L with g:=g'} TT tc th F':=by
 have hlt:=h.box.lt;have hs:=h.size;have hz:=hk.1;refine⟨zU h.box hk h.fl,zw h.row hk (fun k e=>(h.tt k e).2.2),h.tl,fun x hx=>⟨zw (h.el x hx).1 hk (fun k e e2=>h.ut k ((h.el x hx).2 k e) (h.fu k e2)),(h.el x hx).2⟩,cU,fun k e=>.inr e,fun k e=>⟨.inl ⟨(h.tt k e).1,(h.tt k e).2.2⟩,(h.tt k e).2.1,fun e2=>?_⟩,fun e=>?_,.inl ⟨h.lb,h.fl⟩,KS hs hz,fun k hk'=>?_,fun k e=>KL (h.tB k e) hz,fun k e e2=>?_⟩
 ·rcases hF k e2 with e3|e3
  ·exact(h.tt k e).2.2 e3
  have:=(h.row.blk_lt e).2;omega
 ·rcases hF lb e with e3|e3
  ·exact h.fl e3
  omega
 ·rcases hk' with e|e
  ·exact⟨(h.uB k e.1).1,KL (h.uB k e.1).2 hz⟩
  refine⟨?_,cU.lt k e⟩;rcases hF k e with e2|e2
  ·exact(h.uB k (h.fu k e2)).1
  omega
 rcases e2 with e2|e2
 ·exact h.ut k e e2.1
 rcases hF k e2 with e3|e3
 ·exact h.ut k e (h.fu k e3)
 have:=h.tB k e;omega
theorem RlX.more{T2:Nat→Prop}{l:List Fr}{L:LS}{th:List TAs}(h:RlX w B U T lb gb l b L TT tc th F)(h1:∀k,T k→T2 k)(h2:∀k,T2 k→k<w.heap.size∧¬U k):RlX w B U T2 lb gb l b L TT tc th F:=
 ⟨h.box,h.row,h.tl,fun x hx=>⟨(h.el x hx).1,fun k e=>h1 k ((h.el x hx).2 k e)⟩,h.ga,h.fu,h.tt,h.fl,h.lb,h.size,h.uB,fun k e=>(h2 k e).1,fun k e=>(h2 k e).2⟩
def RTakeR(w:World)(B:Nat)(U T:Nat→Prop)(lb gb:Nat)(l:List Fr)(b:List UInt8)(L:LS)(f:Fr)(o:Option Nat)(cs:Array Value)(s5 s6:Value)(wx:World):Prop:=
 ∃(U' T':Nat→Prop) (l':List Fr),(∀k,o=some k→¬U' k∧¬T' k)∧l'.length≤l.length+1∧RlM wx B U' T' lb gb l' b {L with g:=L.g.next f}∧KeepF U w wx∧(∀k,U' k→U k∨w.heap.size≤k)∧(∀k,T' k→T k∨w.heap.size≤k)∧
  ((L.g.out f=none∧cs=asZ∧s5= .bool false∧s6= .int .i64 (L.g.err f:Int))∨
   (∃a A c,L.g.out f=some a∧cs=asV a.chan a.track A a.segs.length c∧s5= .bool true∧s6= .int .i64 0∧OwnG wx 0 A a.segs.length c a.segs∧∀k,blk A=some k→T' k))
theorem Yv{v v':World}{l:List Fr}{L:LS}{f:Fr}{th:List TAs}{e:Ending}(h:RlX v B U T lb gb l b L TT tc th F)(hR:Yw v F gb L.g l f e v'):
  ∃cs s5 s6,e= .returned (.tuple #[.agg cs,s5,s6])∧RTakeR v B U T lb gb l b L f none cs s5 s6 v':=by
 obtain⟨F',l',Nc,cU,fB,hk,fY⟩:=hR;have hM:=h.gath Nc cU hk;have Mf:KeepF U v v':=hk.weak (fun g hg=>.inl (h.fu g hg))
 have nT:∀k,(U k∧¬F k)∨F' k→U k∨v.heap.size≤k:=fun k e=>by
  rcases e with e|e
  ·exact .inl e.1
  rcases Nc k e with e|e
  ·exact .inl (h.fu k e)
  exact .inr e
 rcases fY with⟨ho,rfl⟩|⟨a,A,c,ho,rfl,hG,hA⟩
 ·exact⟨_,_,_,rfl,_,T,l',(fun k e=>by cases e),fB,⟨_,_,_,_,hM⟩,Mf,nT,fun k e=>.inl e,.inl ⟨ho,rfl,rfl,rfl⟩⟩
 refine⟨_,_,_,rfl,_,fun k=>T k∨blk A=some k,l',(fun k e=>by cases e),fB,⟨_,_,_,_,hM.more (fun k e=>.inl e) (fun k e=>?_)⟩,Mf,nT,fun k e=>?_,.inr ⟨a,A,c,ho,rfl,rfl,rfl,hG,fun k e=>.inr e⟩⟩
 ·rcases e with e|e
  ·exact⟨hM.tB k e,hM.ut k e⟩
  refine⟨(hG.blk_lt e).2,fun e2=>?_⟩;have hh:=hA k e;rcases e2 with e2|e2
  ·have:=(h.uB k e2.1).2;omega
  exact hh.1 e2
 rcases e with e|e
 ·exact .inl e
 exact .inr (hA k e).2
theorem RTakeR.done{v0 v1 v3:World}{G:Nat→Prop}{l:List Fr}{L:LS}{f:Fr}{cs:Array Value}{s5 s6:Value}(h:RTakeR v0 B U T lb gb l b L f none cs s5 s6 v1)(hU:∀k,U k→k<w.heap.size)(hT:∀k,T k→k<w.heap.size)(hB:Below w.heap.size w v0)(hk:KeepF G v1 v3)
  (hG:∀k,G k→w.heap.size≤k∧(k<v0.heap.size∨v1.heap.size≤k)) (tb:Nat) (gN:w.heap.size≤tb∧(tb<v0.heap.size∨v1.heap.size≤tb)):RTakeR w B U T lb gb l b L f (some tb) cs s5 s6 v3:=by
 obtain⟨U',T',l',h1,h2,⟨TT,tc,th,F,h3⟩,h4,h5,h6,h7⟩:=h;have hz:=hB.size;have eR:=h4.1
 have gU:∀k,U' k→¬(w.heap.size≤k∧(k<v0.heap.size∨v1.heap.size≤k)):=fun k e e2=>by
  have:=(h3.uB k e).2;rcases h5 k e with e3|e3
  ·have:=hU k e3;omega
  omega
 have gT:∀k,T' k→¬(w.heap.size≤k∧(k<v0.heap.size∨v1.heap.size≤k)):=fun k e e2=>by
  have:=h3.tB k e;rcases h6 k e with e3|e3
  ·have:=hT k e3;omega
  omega
 refine⟨U',T',l',fun k e=>?_,h2,⟨TT,tc,th,F,h3.keep hk (fun k e e2=>gU k e (hG k e2)) (fun k e e2=>gT k e (hG k e2))⟩,((KeepF.below hB).trans h4 (fun g hg=>.inl hg)).trans hk (fun g hg=>.inr (hG g hg).1),fun k e=>(h5 k e).imp id zAg,fun k e=>(h6 k e).imp id zAg,?_⟩
 ·injection e with e
  subst e;exact⟨fun e=>gU _ e gN,fun e=>gT _ e gN⟩
 rcases h7 with h7|⟨a,A,c,e1,e2,e3,e4,e5,e6⟩
 ·exact .inl h7
 exact .inr ⟨a,A,c,e1,e2,e3,e4,zw e5 hk (fun k e e2=>gT k (e6 k e) (hG k e2)),e6⟩
theorem RTakeR.size{l:List Fr}{L:LS}{f:Fr}{o:Option Nat}{cs:Array Value}{s5 s6:Value}{wx:World}(h:RTakeR w B U T lb gb l b L f o cs s5 s6 wx):∃x0 x1 x2,cs= #[x0,x1,x2]∧x0.oneCell'=true∧x1.oneCell'=true∧x2.oneCell'=true:=by
 obtain⟨U',T',_,_,_,_,_,_,_,h5⟩:=h;rcases h5 with⟨_,rfl,_⟩|⟨a,A,c,_,rfl,_⟩
 ·exact⟨_,_,_,rfl,rfl,rfl,rfl⟩
 exact⟨_,_,_,rfl,rfl,rfl,rfl⟩
theorem RlX.tells{w3:World}{l:List Fr}{L:LS}{py:Option Addr}{CX:Nat}{th:List TAs}(h:RlX w B U T lb gb l b L TT tc th F)(a:As)(A:Option Addr)(c:Nat)(hG:OwnG w 0 A a.segs.length c a.segs)(hA:∀k,blk A=some k→T k)
  (hO:OwnT w2 B py (L.told.length+1) CX (th++ [⟨a,A,c⟩])) (Hm:w.grownBy w2 (blk TT)) (FA:blk py=blk TT∨∀k,blk py=some k→w.heap.size≤k) (H6:w2.grownBy w3 (some lb))
  (hb:Box w3 lb 38 #[.int .i64 (L.st:Int),.string (str b),.pointer (some ⟨gb,0,none⟩),.int .u64 (L.ch:Int),.int .u64 (L.sz:Int),.string (str L.sent),.slice py (L.told.length+1) CX]):RStep w B U T lb gb l b {L with told:=L.told++ [a]} w3:=by
 have Bk:KeepF (fun k=>blk TT=some k) w w2:=.grown Hm (fun g hg=>.inl hg);have fo:KeepF (fun k=>k=lb) w2 w3:=.grown H6 (fun g hg=>.inl Hq);have hk:KeepF (fun k=>k=lb∨blk TT=some k) w w3:=(Bk.weak (fun g hg=>.inl (.inr hg))).trans (fo.weak (G:=fun k=>k=lb∨blk TT=some k) (fun g hg=>.inl (.inl hg))) (fun g hg=>.inl hg);have hlt:=h.box.lt
 have eE:∀k,blk py=some k→k≠lb:=fun k e e2=>by
  rcases FA with e3|e3
  ·rw[e3]at e;exact(h.tt k e).2.1 e2
  have:=e3 k e;omega
 have eM:=zw hO fo eE;have hU:∀k,k=lb∨blk TT=some k→U k:=fun k e=>by rcases e with rfl|e;exact h.lb;exact(h.tt k e).1
 have hT:∀k,T k→¬(k=lb∨blk TT=some k):=fun k hk e=>h.ut k hk (hU k e)
 have ef:=hk.1;refine⟨fun k=>U k∨(w.heap.size≤k∧blk py=some k),T,⟨py,CX,th++ [⟨a,A,c⟩],F,?_,?_,?_,?_,?_,fun k hk'=>.inl (h.fu k hk'),fun k hb=>?_,h.fl,.inl h.lb,KS h.size ef,fun k hb=>?_,fun k hb=>KL (h.tB k hb) ef,fun k hb e=>?_⟩,hk.weak (fun g hg=>.inl (hU g hg)),fun k hk=>by rcases hk with e|e;exact .inl e;exact .inr e.1,fun k hk=>.inl hk⟩
 ·rw[Wb];exact hb
 ·rw[Wb];exact eM
 ·rw[List.map_append,←h.tl];rfl
 ·intro x hx;rcases List.mem_append.1 hx with hx|hx
  ·exact⟨zw (h.el x hx).1 hk (fun k e=>hT _ ((h.el x hx).2 k e)),(h.el x hx).2⟩
  obtain rfl:x=⟨a,A,c⟩:=by simpa using hx
  exact⟨zw hG hk (fun k e=>hT _ (hA k e)),hA⟩
 ·exact h.ga.keep hk (fun k hF e=>by rcases e with e|e;exact h.fl (e▸hF);exact(h.tt k e).2.2 hF)
 ·rcases FA with e2|e2
  ·rw[e2]at hb;exact⟨.inl (h.tt k hb).1,(h.tt k hb).2⟩
  exact⟨.inr ⟨e2 k hb,hb⟩,eE k hb,fun hF=>by have:=h.ga.lt k hF;have:=e2 k hb;omega⟩
 ·rcases hb with hb|hb
  ·exact⟨(h.uB k hb).1,KL (h.uB k hb).2 ef⟩
  exact eM.blk_lt hb.2
 rcases e with e|e
 ·exact h.ut k hb e
 have:=h.tB k hb;omega
theorem QF(ctl:LS→As→LS)(f:Fr){l:List Fr}{L:LS}(h:RlM w B U T lb gb l b L)(hl:f.load.length≤1000000)(Bw:L.sz≤1000000)(gD:L.ch<65536)(hfc:f.chan<65536)(hs:L.sent.length≤10000000000)(uh:L.told.length≤1000000000)
  (fm:∀(W:World) (F:Nat→Prop),RGa W F gb L.g l→Calls prog 57 #[.pointer (some ⟨gb,0,none⟩),.agg (frV f)] W (Yw W F gb L.g l f))
  (B5:∀a A c W U' T' l',L.g.out f=some a→a.chan=0→RlM W B U' T' lb gb l' b {L with g:=L.g.next f}→OwnG W 0 A a.segs.length c a.segs→
   Calls prog 58 #[.pointer (some ⟨lb,0,none⟩),.agg (asV a.chan a.track A a.segs.length c)] W fun e w'=>e= .returned (.tuple #[])∧RStep W B U' T' lb gb l' b (ctl {L with g:=L.g.next f} a) w'):
  Calls prog 41 #[.pointer (some ⟨lb,0,none⟩),.agg (frV f)] w fun e w'=>e= .returned (.tuple #[])∧∃l2,l2.length≤l.length+1∧RStep w B U T lb gb l2 b (L.take ctl f) w':=by
 obtain⟨TT,tc,th,F,h⟩:=h;obtain⟨fb,w0,ue,px,ie,Hy⟩:=zq w (frV f) 97;have nw:w.heap.size≤fb:=by omega
 have h0:=h.below Hy;have c3:=h0.box.c3;have c4:=h0.box.c4;have dD:=zi f.load;unfold frV at px ie fm ⊢;have f6:=ie.c6;have f7:=ie.c7;go_enter func41,ntmps41;go_upto_region 1 with fail;rw[←ue,←px];clear ue px;by_cases q1:L.sz<f.load.length+12
 ·exact Z24_
 have d1:decide ((L.sz:Int)<(f.load.length:Int)+12)=false:=by simp;omega
 by_cases q2:L.ch<f.chan
 ·have qqah:=();exact Z24_
 have d2:¬(L.ch:Int)<(f.chan:Int):=by omega
 have HR:=Q1 (show L.take ctl f=match L.g.out f with
  | none=>if L.g.err f=0 then{L with g:=L.g.next f}else LS.close {L with g:=L.g.next f} 501 yp
  | some a=>if a.chan=0 then ctl {L with g:=L.g.next f} a else if L.st=4 then{L with g:=L.g.next f,told:=L.told++ [a]}else LS.close {L with g:=L.g.next f} 501 yp by unfold LS.take;rw[if_neg Wq];cases L.g.out f<;>rfl)
 try simp only[Act.put]
 go_quiet(fail);clear c3 c4 f6 f7 d1 d2 q1 q2;have h1:=h0.below (za (Q2 _ _) nq);have eD:=ie.below (za (Q2 _ _) nq);have Ha:=za Hy nq;have Tc:∀k,U k→k≠fb:=fun k hk=>by have:=(h.uB k hk).2;omega
 clear h0 ie dD Hy nw h;go_upto_region 3 with fail;generalize w0.drewN nq=wq at*;go_cut [4,5,6]from 29 to 38 (fun s4 s5 s6 wx=>∃tb cs,s4= .pointer (some ⟨tb,0,none⟩)∧Box wx tb 42 cs∧RTakeR wq B U T lb gb l b L f (some tb) cs s5 s6 wx)
 case first=>
  have Dh:∀k,U k→k<wq.heap.size:=fun k hk=>(h1.uB k hk).2
  have Mv:∀k,T k→k<wq.heap.size:=h1.tB
  have B0:Below wq.heap.size wq wq.drew:=za (Q2 _ wq) 1;have h2:=h1.below B0;have AJ:=eD.below B0;have dl:=eD.lt;have FV:¬F fb:=fun e=>Tc _ (h1.fu _ e) rfl
  have hdz:=B0.size;refine zt (fun W:World=>W.cell? ⟨lb,2,none⟩=some (.pointer (some ⟨gb,0,none⟩))∧Box W fb 97 #[.bool f.first,.bool f.last,.bool f.beg,.bool f.fin,.int .u8 (f.ty:Int),.int .u8 (f.track:Int),.int .u16 (f.chan:Int),.string (str f.load)]) Wj ?_;have hS:wq.drew.cell? ⟨lb,2,none⟩=some (.pointer (some ⟨gb,0,none⟩))∧Box wq.drew fb 97 #[.bool f.first,.bool f.last,.bool f.beg,.bool f.fin,.int .u8 (f.ty:Int),.int .u8 (f.track:Int),.int .u16 (f.chan:Int),.string (str f.load)]:=⟨h2.box.cell (j:=2) rfl,AJ⟩;clear B5 h1 eD AJ;generalize wq.drew=wd at*;refine rg_t 0 hS ?_;simp only[kI,q4,Act.put,List.setIfInBounds_toArray,List.set_cons_zero,List.set_cons_succ];refine rg_t 1 hS ?_;simp only[g_S];refine rg_t 2 hS ?_;simp only[g_S];refine ze 3 (v:=?_) rfl Wj Wj Wj hS rfl ?_ ?_;rotate_left
  ·intro wS He;have k0:=He.1;go_simp;(with_reducible rfl)
  simp only[g_S];refine ze 4 (v:=?_) rfl Wj Wj Wj hS rfl ?_ ?_;rotate_left
  ·exact Z37_
  simp only[g_S];refine xP 5 10 rfl rfl Wj rfl rfl (fun K hK=>?_) (fun K hK=>?_)
  ·go_simp;refine(fm wd F h2.ga).mono ?_;rintro e v1 hR;have rA:KeepF F wd v1:=hR.choose_spec.choose_spec.2.2.2.1;obtain⟨cs,s5,s6,rfl,sM⟩:=Yv h2 hR;obtain⟨x0,x1,x2,rfl,y0,y1,y2⟩:=sM.size;have pT:=zU h2.box rA h2.fl;have pQ:=zU hS.2 rA FV;clear hR fm h2;refine hK _ _ ⟨pT.cell (j:=2) rfl,pQ⟩ ?_;clear hK K;have BG:=And.intro (show v1.cell? ⟨lb,2,none⟩=some (.pointer (some ⟨gb,0,none⟩))from pT.cell (j:=2) rfl) pQ;refine rg_t 6 BG ?_;simp only[g_S];refine rg_t 7 BG ?_;simp only[g_S];refine rg_t 8 BG ?_;simp only[g_S];refine rg_t 9 BG ?_;simp only[g_S];obtain⟨tb,v2,gN,ff,hz,Hc⟩:=zq v1 #[.int .u16 0,.int .u8 0,.slice none 0 0] 42;refine zj 10 rfl Wj rfl (fun K hK=>?_);go_simp;rw[←ff,←gN];(have IG:v1.heap.size≤tb:=by omega);clear ff gN;refine hK _ _ ⟨(pT.below Hc).cell (j:=2) rfl,pQ.below Hc⟩ ?_;clear hK K;(try simp only[g_S]);refine zj 11 rfl Wj rfl (fun K hK=>?_);refine zK (v:=.agg #[x0,x1,x2]) (vs:=[x0,x1,x2]) rfl rfl rfl hz rfl Wj Wz (by simp[y0,y1,y2]) #[x0,x1,x2] Wz ?_;intro v3 bX H6 fR;clear fR;have Hh:Below v1.heap.size v1 v3:=Hc.grown H6 Hc.size (fun g e=>by injection e with e;omega);have dN:=And.intro (show v3.cell? ⟨lb,2,none⟩=some (.pointer (some ⟨gb,0,none⟩))from(pT.below Hh).cell (j:=2) rfl) (pQ.below Hh);refine hK _ _ dN ?_;clear hK K;(try simp only[g_S]);refine zj 12 rfl Wj rfl (fun K hK=>?_);go_simp;refine hK _ _ dN ?_;clear hK K;refine zj 13 rfl Wj rfl (fun K hK=>?_);go_simp;refine hK _ _ dN ?_;clear hK K;refine zz Wj ?_;go_wp2_with fail;go_meet
   case rel=>exact⟨tb,#[x0,x1,x2],rfl,bX,sM.done Dh Mv B0 (KeepF.below (F:=fun _=>False) Hh) (fun k e=>e.elim) tb ⟨by have:=sM.choose_spec.choose_spec.choose_spec.2.2.2.1.1;omega,.inr IG⟩⟩
  obtain⟨tb,v0,gN,F8,hz,Hy⟩:=zq wd #[.int .u16 0,.int .u8 0,.slice none 0 0] 42;go_simp;rw[←F8,←gN];have IG:wd.heap.size≤tb:=by omega
  have Lh:=hz.lt;have h3:=h2.below Hy;have dL:=B0.trans (Hy.mono B0.size);have PI:¬F tb:=fun e=>by have:=Dh _ (h2.fu _ e);omega
  have tC:=hS.2.below Hy;have hlt:lb≠tb:=by have:=h2.box.lt;omega
  have AP:fb≠tb:=by omega
  clear F8 gN h2;refine hK _ _ ⟨h3.box.cell (j:=2) rfl,tC⟩ ?_;clear hK K;try simp only[g_S]
  refine zj 5 rfl Wj rfl (fun K hK=>?_);go_simp;refine(fm v0 F h3.ga).mono ?_;rintro e v1 hR;have rA:KeepF F v0 v1:=hR.choose_spec.choose_spec.2.2.2.1;obtain⟨cs,s5,s6,rfl,sM⟩:=Yv h3 hR;obtain⟨x0,x1,x2,rfl,y0,y1,y2⟩:=sM.size;have pT:=zU h3.box rA h3.fl;have pQ:=zU tC rA FV;have cy:=zU hz rA PI;have BG:=And.intro (show v1.cell? ⟨lb,2,none⟩=some (.pointer (some ⟨gb,0,none⟩))from pT.cell (j:=2) rfl) pQ;clear hR fm h3 hz tC;refine hK _ _ BG ?_;clear hK K;try simp only[g_S]
  refine rg_t 6 BG ?_;simp only[g_S];refine rg_t 7 BG ?_;simp only[g_S];refine rg_t 8 BG ?_;simp only[g_S];refine rg_t 9 BG ?_;simp only[g_S];refine zj 11 rfl Wj rfl (fun K hK=>?_);refine zK (v:=.agg #[x0,x1,x2]) (vs:=[x0,x1,x2]) rfl rfl rfl cy rfl Wj Wz (by simp[y0,y1,y2]) #[x0,x1,x2] Wz ?_;intro v3 bX H6 fR;clear fR;have fo:KeepF (fun k=>k=tb) v1 v3:=.grown H6 (fun g e=>.inl uQ);have dN:=And.intro (show v3.cell? ⟨lb,2,none⟩=some (.pointer (some ⟨gb,0,none⟩))from(zU pT fo hlt).cell (j:=2) rfl) (zU pQ fo AP);refine hK _ _ dN ?_;clear hK K;try simp only[g_S]
  refine zj 12 rfl Wj rfl (fun K hK=>?_);go_simp;refine hK _ _ dN ?_;clear hK K;refine zj 13 rfl Wj rfl (fun K hK=>?_);go_simp;refine hK _ _ dN ?_;clear hK K;refine zz Wj ?_;go_wp2_with fail;go_meet
  case rel=>exact⟨tb,#[x0,x1,x2],rfl,bX,sM.done Dh Mv dL fo (fun k e=>by subst e;exact⟨by omega,.inl Lh⟩) tb ⟨by omega,.inl Lh⟩⟩
 clear fm h1 eD Tc;obtain⟨tb,cs,rfl,ii,U',T',l',G7,fB,hM,FO,nT,sE,fY⟩:=hcut;have cy:=Ha.size;have hK:KeepF U w wc:=(KeepF.below Ha).trans FO (fun g hg=>.inl hg);have ww:∀k,U' k→U k∨w.heap.size≤k:=fun k e=>(nT k e).imp id zAg
 have wT:∀k,T' k→T k∨U k∨w.heap.size≤k:=fun k e=>(sE k e).imp id (fun e=>.inr Wq)
 clear Ha FO nT sE;obtain⟨TU,tu,tj,FU,hM⟩:=hM;have m0:=hM.box.c0;rcases fY with⟨ho,rfl,rfl,rfl⟩|⟨a,A,c,ho,rfl,rfl,rfl,hG,hA⟩
 ·have eU:Hid (L.take ctl f=if L.g.err f=0 then{L with g:=L.g.next f}else LS.close {L with g:=L.g.next f} 501 yp):=Q1 (by rw[HR.out,ho]);clear HR ho B5;by_cases q1:L.g.err f=0
  ·have wH:=Q1 (eU.out.trans (if_pos q1));rw[q1];clear q1 eU;go_wp2_with(with_reducible refine h_A ?_);go_end0;exact⟨rfl,l',fB,by rw[wH.out];exact RStep.of hK ww wT (RStep.mk hM (.refl _ _))⟩
  have qqai:=();exact Z24_
 have eU:Hid (L.take ctl f=if a.chan=0 then ctl {L with g:=L.g.next f} a else if L.st=4 then{L with g:=L.g.next f,told:=L.told++ [a]}else LS.close {L with g:=L.g.next f} 501 yp):=Q1 (by rw[HR.out,ho]);clear HR;unfold asV at ii;have z0:=ii.c0;by_cases q1:a.chan=0
 ·have wH:=Q1 (eU.out.trans (if_pos q1));have dk:=B5 a A c wc U' T' l' ho q1 ⟨_,_,_,_,hM⟩ hG;unfold asV at dk;rw[q1,show((0:Nat):Int)=0 from rfl]at z0 dk ii;have z1:=ii.c1;have z2:=ii.c2;clear q1 eU ho B5 hM hG hA m0;go_wp2_with(with_reducible refine h_A ?_);refine dk.mono ?_;rintro e w9 ⟨rfl,bV⟩;clear dk;go_wp2_with(with_reducible refine h_A ?_);go_end0;exact⟨rfl,l',fB,by rw[wH.out];exact RStep.of hK ww wT bV⟩
 have wH:=Q1 (eU.out.trans (if_neg q1));have d1:((a.chan:Int)!=0)=true:=by simp;omega
 have d2:((a.chan:Int)==0)=false:=by simp;omega
 clear eU ho B5 q1;by_cases q2:L.st=4
 ·have OY:=Q1 (wH.out.trans (if_pos q2));have d3:((L.st:Int)!=4)=false:=by rw[q2];rfl
  clear q2 wH;go_upto_region 9 with fail;clear d1 d2 d3 m0 z0;obtain⟨aH,RX⟩:tb≠lb∧blk TU≠some tb:=⟨fun e=>(G7 tb rfl).1 (e▸hM.lb),fun e=>(G7 tb rfl).1 (hM.tt tb e).1⟩;have BC:L.told.length≤1000000000:=uh;have B0:Below wc.heap.size wc wc.drew:=za (Q2 _ wc) 1;have tp:=hM.below B0;have Fl:=ii.below B0;have NP:=zh hG B0;have dS:=hK.trans (.below (F:=U) B0) (fun g hg=>.inl hg);have EJ:=B0.size;have hTz:Hid (∀k,T' k→T k∨U k∨w.heap.size≤k):=Q1 wT;refine jb 10 (fun W:World=>W.cell? ⟨lb,6,none⟩=some (.slice TU L.told.length tu)∧Box W tb 42 #[.int .u16 (a.chan:Int),.int .u8 (a.track:Int),.slice A a.segs.length c]) Wj ?_;have hS:wc.drew.cell? ⟨lb,6,none⟩=some (.slice TU L.told.length tu)∧Box wc.drew tb 42 #[.int .u16 (a.chan:Int),.int .u8 (a.track:Int),.slice A a.segs.length c]:=⟨tp.box.cell (j:=6) rfl,Fl⟩;clear hM ii hG hK B0;generalize wc.drew=wd at*;refine yi 0 hS ?_;try simp only[g_S]
  refine yi 1 hS ?_;try simp only[g_S]
  refine yi 2 hS ?_;try simp only[g_S]
  refine yi 3 hS ?_;try simp only[g_S]
  refine yi 4 hS ?_ (hy:=by intro wS He;have k0:=He.1;go_simp;(with_reducible rfl));try simp only[g_S]
  refine yi 5 hS ?_ (hy:=by intro wS He;have k:=He.2;have q0:=k.cell (j:=0) rfl;have q1:=k.cell (j:=1) rfl;have q2:=k.cell (j:=2) rfl;go_simp;(with_reducible rfl));try simp only[g_S]
  refine yH 6 rfl Wj rfl (fun K hK=>?_);go_simp;have hBa:=(Q2 wd.heap.size wd).alloc (K2 _) (.cells #[.int .u16 (a.chan:Int),.int .u8 (a.track:Int),.slice A a.segs.length c] 42);refine hK _ _ (fun _=>⟨(tp.below hBa).box.cell (j:=6) rfl,Fl.below hBa⟩) ?_;clear hK K;try simp only[g_S]
  refine yH 7 rfl Wj rfl (fun K hK=>?_);refine jR (W:=wd) kE slTA underlying29 rfl rfl rfl rfl (⟨a,A,c⟩:TAs) rfl tp.row (show(L.told.length+1)*32≤140737488355328 by omega) BC tp.size ?_;intro A2 c2 w2 iE Hm gQ Hc;have lY:=tp.box.grown Hm (fun e=>(tp.tt lb e.symm).2.1 rfl);have If:=Fl.grown Hm (fun e=>RX e.symm);refine hK _ _ (fun _=>⟨lY.cell (j:=6) rfl,If⟩) ?_;clear hK K;try simp only[g_S]
  have hS:=And.intro (show w2.cell? ⟨lb,6,none⟩=some (.slice TU L.told.length tu)from lY.cell (j:=6) rfl) If;refine yi 8 hS ?_;try simp only[g_S]
  refine yi 9 hS ?_;try simp only[g_S]
  refine yH 10 rfl Wj rfl (fun K hK=>?_);refine zK (g:=lb) (j:=6) (v:=.slice A2 (L.told.length+1) c2) (vs:=[.slice A2 (L.told.length+1) c2]) rfl rfl rfl lY rfl Wj Wz WZ #[.int .i64 (L.st:Int),.string (str b),.pointer (some ⟨gb,0,none⟩),.int .u64 (L.ch:Int),.int .u64 (L.sz:Int),.string (str L.sent),.slice A2 (L.told.length+1) c2] Wz ?_;intro w3 bX H6 fR;refine hK _ _ (fun h=>absurd rfl h) ?_;clear hK K fR;try simp only[g_S]
  refine kO Wj ?_;go_wp2_with(with_reducible refine h_A ?_);go_end0;exact⟨rfl,l',fB,by rw[OY.out];exact RStep.of dS ww hTz.out (tp.tells a A c NP hA iE Hm gQ H6 bX)⟩
 have qqaj:=();exact Z24_
end Go.PH
