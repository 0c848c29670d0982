/- Parts. -/
import Derived.Test.YtfbkameikhgciaaGreatDoorMh09
set_option linter.all false
set_option maxRecDepth 20000
set_option maxHeartbeats 8000000
open Go.RowKit.Below renaming refl → Q2
open Go.Lib renaming hid → Q1
open List renaming take_of_length_le → K1, length → K2, getElem?_eq_getElem → Wb, getElem_cons_zero → Vy, length_append → Vx, getElem_toArray → q9, getD_eq_getElem?_getD → kI, drop_length → kv, append_nil → ky, setIfInBounds_toArray → kx, set_cons_zero → k1, set_cons_succ → k2, drop_zero → k3
open Nat renaming le_refl → KL, lt_of_lt_of_le → KS, le_trans → K0, zero_mul → q4, add_zero → q6
namespace Go.PH
open Go.RowKit Go.Proofs Go.Proofs.Tryz
variable {b : List UInt8} {B N S gb lb tc : Nat} {F T U : Nat → Prop} {TT : Option Addr} {w w' w2 : World}
theorem V5(b:List UInt8):∃p:Mt×Int,GetM b p.1 p.2:=by
 by_cases h2:b.length<2
 ·exact⟨(mt0,4),.inl ⟨h2,rfl,rfl⟩⟩
 cases hf:yp (b.getD 0 0).toNat (b.getD 1 0).toNat with
 | none=>exact⟨(mt0,80),.inr (.inl ⟨by omega,hf,rfl,rfl⟩)⟩
 | some r=>
  by_cases hm:∃m',yI m'=true∧MB m'∧putM m'=b
  ·obtain⟨m,h3,h4,h5⟩:=hm;exact⟨(m,0),.inr (.inr ⟨by omega,by rw[hf];rfl,.inl ⟨rfl,h4,h3,h5⟩⟩)⟩
  exact⟨(mt0,5),.inr (.inr ⟨by omega,by rw[hf];rfl,.inr ⟨rfl,rfl,fun m' h3 h4 h5=>hm ⟨m',h3,h4,h5⟩⟩⟩)⟩
noncomputable def getP(b:List UInt8):Mt×Int:=(V5 b).choose
theorem V6(b:List UInt8):GetM b (getP b).1 (getP b).2:=(V5 b).choose_spec
theorem V7{m:Mt}{er:Int}(h:GetM b m er):m=(getP b).1∧er=(getP b).2:=h.uniq (V6 b)
theorem Jx(b:List UInt8)(h:(getP b).2=0):(getP b).1.args.length=(yv (yp (getP b).1.cls (getP b).1.code)).length:=by
 have hg:=V6 b;rw[h]at hg;rcases hg with⟨_,h2,_⟩|⟨_,_,h2,_⟩|⟨_,_,⟨_,h3,h4,h5⟩|⟨h2,_⟩⟩
 ·omega
 ·omega
 ·exact(ZV h4 h3 h5).2.2.2.2.1
 omega
theorem zbF(b:List UInt8)(hb:b.length≤100000000)(w0:World)(hT:UTabs w0):GetC w0 b (getP b).1 (getP b).2:=by
 intro A n c W hB hr he;have hl:=RdB.length hr;refine(zbI A n c b W he (hT.on hB) hr Wq).mono ?_;exact Z5t_
def Z3(a:As):List UInt8:=match a.segs with
 | []=>[]
 | s::_=>s.load
noncomputable def ctlG(L:LS)(a:As):LS:=L.ctlM a (getP (Z3 a)).1 (getP (Z3 a)).2
theorem V8:CtlOk ctlG:=⟨fun L a s t=>L.lead_ctlM a _ _ s t,fun L a h=>L.ctlM_st a _ _ h⟩
theorem XX{g:GS}{f:Fr}{a:As}(hi:g.Inv)(h:g.out f=some a):∃sg rest,a.segs=sg::rest∧sg.load.length≤16384:=by
 unfold GS.out at h;split at h
 ·rename_i hc
  injection h with h
  rcases g.err_cases f with⟨e,_⟩|⟨_,⟨e,_⟩|⟨bJ,⟨e,_⟩|⟨ie,⟨e,_⟩|⟨e,hl⟩⟩⟩⟩
  ·omega
  ·omega
  ·omega
  ·omega
  have hg:=(hi.goes f.chan f.track).snoc bJ ie hl;have hne:=Xa hg Wz;have BD:=vu (g.op f.chan f.track++ [f]);have fB:=hg.len;have hs:a.segs=zZ (g.op f.chan f.track++ [f]):=by rw[←h]
  cases gB:a.segs with
  | nil=>rw[hs]at gB;exact absurd gB hne
  | cons sg rest=>
   refine⟨sg,rest,rfl,?_⟩;have:=kQ (l:=a.segs) (s:=sg) (by rw[gB];simp);rw[hs]at this;omega
 cases h
structure LG(L:LS):Prop where
 inv:L.g.Inv
 sz:L.sz≤4096
 ch:L.ch≤255
 st:L.st<256
theorem V9{k:Nat}{M:LS}(h:LB S N k M)(hk:k<N)(a:As):LB S N (k+1) (ctlG M a):=h.ctlM hk a _ _
theorem zaa:∀(l:List Fr) (k:Nat) (M:LS),LB S N k M→k+l.length≤N→(∀f∈l,f.wf)→∃k',k'≤k+l.length∧LB S N k' (M.goes ctlG l)
 | [],k,M,h,_,_=>⟨k,by simp,h⟩
 | f::l,k,M,h,hn,hw=>by
  by_cases h5:M.st=5
  ·rw[LS.goes_closed h5];exact⟨k,by omega,h⟩
  rw[LS.goes_cons ctlG M f l h5];simp only[List.length_cons]at hn ⊢;obtain⟨k',h1,h2⟩:=zaa l (k+1) _ (h.take Wq (hw f Wz) ctlG (fun L a hL=>V9 hL Wq a)) Wq (fun x hx=>hw x (by simp[hx]));exact⟨k',by omega,h2⟩
theorem LB.lg{k:Nat}{M:LS}(h:LB S N k M):LG M:=⟨h.inv,h.sz,h.ch,h.st'⟩
theorem Kf(b:List UInt8):∀f∈(zu b).1,f.wf:=by
 induction hn:b.length using Nat.strongRecOn generalizing b with
 | ind n ih=>
  subst hn;intro f hf;by_cases hw:zN b=false
  ·rw[qA hw]at hf;cases hf
  have fw:zN b=true:=by simpa using hw
  by_cases gi:b.length<12
  ·rw[xa fw gi]at hf;cases hf
  by_cases hl:b.length<frN b
  ·rw[qg fw Wq hl]at hf;cases hf
  have hN:=(qe fw Wq).1;rw[qh fw Wq Wq]at hf;rcases List.mem_cons.1 hf with rfl|hf
  ·exact KF b _
  exact ih _ mz (b.drop (frN b)) rfl f hf
theorem vp(b:List UInt8):∀f∈(zu b).1,f.wf∧f.load.length≤4084:=by
 intro f hf;refine⟨Kf b f hf,?_⟩;have h:=(Ka b).1;rw[←h]at hf;unfold Y2 at hf;have bJ:=(List.mem_filter.1 hf).2;have⟨_,o3⟩:(f.ty≤3∧f.track≤15)∧f.load.length≤4084:=by unfold Fr.ok at bJ;simpa using bJ
 exact o3
theorem XY(sz:Nat):(ctlB sz startB).length≤13*startB.length+12:=jl sz startB
theorem zab{L:LS}(h:LG L)(b s:List UInt8):LG (LS.feed ctlG L b s).1∧(LS.feed ctlG L b s).2.length≤b.length+s.length∧(LS.feed ctlG L b s).1.sent.length≤20000*(b.length+s.length+2)∧(LS.feed ctlG L b s).1.told.length≤b.length+s.length+1:=by
 unfold LS.feed;split
 ·exact⟨⟨h.inv,h.sz,h.ch,h.st⟩,by simp,by simp,by simp⟩
 exact Z10_
theorem zdz{L:LS}(h:LG L)(b s:List UInt8):LG (L.pre b s).1∧(L.pre b s).1.told=[]∧(L.pre b s).1.sent.length≤1000∧(L.pre b s).2.length≤b.length+s.length:=by
 have qq6i:=();exact Z10_
theorem zav{w0:World}{V:Nat→Prop}{n:Nat}{s:List UInt8}{L:LS}(og:Below w0.heap.size w0 w)(hT:UTabs w0)(oW:MEnv w0)(h:LkI w w0.heap.size V lb n b L)(hg:LG L)(dI:b.length+s.length≤1000000)(hn:n≤100000000):
  Calls prog 12 #[.pointer (some ⟨lb,0,none⟩),.string (str s)] w fun e w'=>∃n',n'≤n+b.length+s.length∧zb0 w w0.heap.size V lb n' (L.feed ctlG b s) e w':=by
 obtain⟨p1,p2,p3,p4⟩:=zdz hg b s;have gF:=vo (L.pre b s).2
 have eU:=V2 ctlG (LB 1000 (zu (L.pre b s).2).1.length) s b h (oW.on og) oW.lt (by have:=hg.sz;omega) Wq Wq hg.st
  Wq (fun k M hM=>hM.st) (fun k M hM=>hM.bounds Wq Wq)
  (fun k M f hk hf hM=>hM.take hk (vp _ f hf).1 ctlG (fun M a CW=>V9 CW hk a))
  (fun h0 h5=>⟨by omega,p1.inv,p1.sz,p1.ch,h0,p1.st,by omega,by rw[p2];simp⟩)
  (fun f hf=>⟨(vp _ f hf).1,by have:=(vp _ f hf).2;omega⟩)
  (fun k M f a A c W U' T' m' RA' rn' rc' hf hM cQ lm aS hG sD hE eu=>by
   obtain⟨sg,rest,gB,GH⟩:=XX hM.inv cQ;have iq:=hM.bounds Wq Wq;have fC:Z3 a=sg.load:=by unfold Z3;rw[gB]
   exact XD a sg rest gB (getP (Z3 a)).1 (getP (Z3 a)).2 (by rw[fC];exact zbF sg.load Wq W (hT.on (og.trans eu))) (Jx _) A c aS hG Wq hE hM.st' iq.2.1 iq.2.2.2.1)
 refine eU.mono ?_;intro e w' hR;exact⟨_,by omega,hR⟩
def sumL(l:List (List UInt8)):Nat:=(l.map K2).sum
theorem X8(l:List (List UInt8))(x:List UInt8):sumL (l++ [x])=sumL l+x.length:=by simp[sumL]
def zdA(n:Nat)(L:List (List UInt8))(e:Ending):Prop:=∃g:Bool,e= .returned (.bool g)∧(g=false→n≤60∧sumL L≤20000)
theorem zaw(A:Option Addr)(n c:Nat)(L:List (List UInt8))(w:World)(hr:Rd w w.heap.size 1 A n c (L.map txV))(hl:∀x∈L,x.length≤140737488351232)(hn:n≤140737488351232):
  Calls prog 8 #[.slice A n c] w fun e w'=>zdA n L e∧w=w':=by
 have hL:L.length=n:=by have:=hr.len;simpa using this
 have HL:=Q1 hL;have HR:=Q1 hr;have rF:=Q1 hl;clear hL hr hl;go_enter func8,ntmps8;go_wp2_with(with_reducible refine h_A ?_);go_loop [4,3] (fun s4 s3=>∃k m:Nat,k≤n∧k≤60∧s4= .int .i64 (k:Int)∧s3= .int .i64 (m:Int)∧m≤6000*k∧Hid (m=sumL (L.take k))) (fun s4 _=>n-(RowKit.intOf s4).toNat)
 case atStart=>exact⟨0,0,by omega,by omega,rfl,rfl,by omega,Q1 rfl⟩
 obtain⟨k,m,hk,El,rfl,rfl,hm,HM⟩:=hrel;by_cases hlt:k<n∧k<60
 ·have g1:(k:Int)<(n:Int):=by omega
  have g2:(k:Int)<60:=by omega
  obtain⟨b,off,u,rfl,hb,hu,hc⟩:=HR.out.at_k hlt.1;have bK:k<L.length:=by rw[HL.out];exact hlt.1
  obtain rfl:u= .string (str L[k]):=by rw[List.getElem?_map,Wb bK]at hu;exact(Option.some.inj hu).symm
  have d9:=rF.out _ (List.getElem_mem bK);have HT:Hid (sumL (L.take (k+1))=sumL (L.take k)+L[k].length):=Q1 (by rw[List.take_succ_eq_append_getElem bK,X8]);clear hu;generalize L[k]=x at*;have tp:=zh x;by_cases SE:6000<x.length
  ·(have d1:(6000:Int)<((str x).size:Int):=by omega);exact Z5z_
  have d1:¬(6000:Int)<((str x).size:Int):=by omega
  have MI:Hid (m+x.length=sumL (L.take (k+1))):=Q1 (by rw[HT.out,HM.out]);go_wp2_with(with_reducible refine h_A ?_);exact⟨⟨k+1,m+x.length,by omega,by omega,by go_num,by go_num,by omega,MI⟩,by simp[RowKit.intOf];omega⟩
 by_cases rH:60<n
 ·have g3:(60:Int)<(n:Int):=by omega
  obtain rfl:k=60:=by omega
  have g1:((60:Nat):Int)<(n:Int):=by omega
  have g2:¬((60:Nat):Int)<60:=by omega
  exact Z5z_
 obtain rfl:k=n:=by omega
 have g3:¬(60:Int)<(k:Int):=by omega
 have g1:¬(k:Int)<(k:Int):=by omega
 have MI:Hid (m=sumL L):=Q1 (by rw[HM.out,K1 (by rw[HL.out];exact KL _)]);go_wp2_with(with_reducible refine h_A ?_);go_ret;refine⟨⟨_,rfl,fun e=>⟨by omega,?_⟩⟩,rfl⟩;rw[←MI.out];have:=of_decide_eq_false e;omega
def LS0:LS:=⟨0,255,4096,GS.new,[],[]⟩
theorem zdy:LG LS0:=⟨GS.inv_new,by show(4096:Nat)≤4096;omega,by show(255:Nat)≤255;omega,by show(0:Nat)<256;omega⟩
theorem X7(l:List (List UInt8))(i:Nat):sumL (l.take i)≤sumL l:=by
 have h:∀a b:List (List UInt8),sumL (a++b)=sumL a+sumL b:=fun a b=>by simp[sumL]
 have h2:=h (l.take i) (l.drop i);rw[List.take_append_drop]at h2;omega
section
def LS.one(ctl:LS→As→LS)(p:LS×List UInt8)(c:UInt8):LS×List UInt8:=
 if p.1.st=0 then
  if p.2++ [c]=hdrB.take (p.2.length+1)then(if p.2.length=7 then({p.1 with st:=1,sent:=p.1.sent++hdrB++ctlB p.1.sz startB},[])else(p.1,p.2++ [c]))
  else({p.1 with st:=5,sent:=p.1.sent++hdrB},p.2++ [c])
 else if zN (p.2++ [c])=false then(p.1.close 501 yt,p.2++ [c])
 else if 12≤(p.2++ [c]).length∧frN (p.2++ [c])≤(p.2++ [c]).length then(p.1.take ctl (frAt (p.2++ [c]) (frN (p.2++ [c]))),(p.2++ [c]).drop (frN (p.2++ [c])))
 else(p.1,p.2++ [c])
def LS.ones(ctl:LS→As→LS):LS×List UInt8→List UInt8→LS×List UInt8
 | p,[]=>p
 | p,c::s=>if p.1.st=5 then p else LS.ones ctl (LS.one ctl p c) s
theorem qy(ctl:LS→As→LS){p:LS×List UInt8}(h:p.1.st=5)(s:List UInt8):LS.ones ctl p s=p:=by
 cases s with
 | nil=>rfl
 | cons c s=>unfold LS.ones;rw[if_pos h]
theorem ZZ(ctl:LS→As→LS)(c:UInt8):∀(s:List UInt8) (p:LS×List UInt8),LS.ones ctl p (s++ [c])=if(LS.ones ctl p s).1.st=5 then LS.ones ctl p s else LS.one ctl (LS.ones ctl p s) c
 | [],p=>by
  show(if p.1.st=5 then p else LS.one ctl p c)=_
  rfl
 | d::s,p=>by
  by_cases h:p.1.st=5
  ·rw[qy ctl h,qy ctl h,if_pos h]
  have e:∀x,LS.ones ctl p (d::x)=LS.ones ctl (LS.one ctl p d) x:=fun x=>by rw[LS.ones,if_neg h]
  rw[List.cons_append,e,e];exact ZZ ctl c s _
structure Idle(L:LS)(b:List UInt8):Prop where
 hdr:L.st=0→b.length<8∧b=hdrB.take b.length
 fr:L.st≠0→L.st≠5→zN b=true∧¬(12≤b.length∧frN b≤b.length)
section
variable {ctl : LS → As → LS} (hc : CtlOk ctl)
include hc
theorem zbC(L:LS)(b:List UInt8)(c:UInt8)(s:List UInt8)(t:List As):LS.one ctl (L.lead s t,b) c=((LS.one ctl (L,b) c).1.lead s t,(LS.one ctl (L,b) c).2):=by
 unfold LS.one;have h1:(L.lead s t).st=L.st:=rfl;simp only[h1];split
 ·split
  ·split
   ·simp[LS.lead]
   rfl
  simp[LS.lead]
 split
 ·rw[LS.lead_close]
 split
 ·rw[XZ hc]
 rfl
theorem zbD{L:LS}(h:Idle L b)(h5:L.st≠5)(c:UInt8):Idle (LS.one ctl (L,b) c).1 (LS.one ctl (L,b) c).2:=by
 have E7:∀M:LS,M.st≠0→Idle M []:=fun M hM=>⟨fun e=>absurd e hM,fun _ _=>⟨by decide,by simp⟩⟩
 have M7:∀(M:LS) (r:List UInt8),M.st=5→Idle M r:=fun M r hM=>⟨fun e=>by omega,fun _ e=>absurd hM e⟩
 by_cases h0:L.st=0
 ·obtain⟨bL,bE⟩:=h.hdr h0;unfold LS.one;simp only;rw[if_pos h0];split
  ·rename_i q
   split
   ·exact E7 _ (by show(1:Nat)≠0;omega)
   refine⟨fun _=>⟨by simp;omega,?_⟩,fun e=>absurd h0 e⟩;rw[Vx];exact q
  exact M7 _ _ rfl
 obtain⟨ix,fJ⟩:=h.fr h0 h5;unfold LS.one;simp only;rw[if_neg h0];split
 ·exact M7 _ _ rfl
 rename_i q
 have q1:zN (b++ [c])=true:=by simpa using q
 split
 ·rename_i k
  have hl:(b++ [c]).length=b.length+1:=by simp
  have hn:frN (b++ [c])=(b++ [c]).length:=by
   exact Z67_
  rw[hn,kv];exact E7 _ (zac hc _ _ h0)
 rename_i k
 exact⟨fun e=>absurd e h0,fun _ _=>⟨q1,k⟩⟩
theorem zbE{L:LS}(h:Idle L b)(h5:L.st≠5)(c:UInt8):(LS.feed ctl L b [c]).1=(LS.one ctl (L.core,b) c).1∧((LS.feed ctl L b [c]).1.st≠5→(LS.feed ctl L b [c]).2=(LS.one ctl (L.core,b) c).2):=by
 have e:LS.feed ctl L b [c]=LS.post ctl (L.pre b [c]):=by unfold LS.feed;rw[if_neg h5]
 rw[e];have hl:(b++ [c]).length=b.length+1:=by simp
 have hh8:hdrB.length=8:=rfl;by_cases h0:L.st=0
 ·obtain⟨bL,bE⟩:=h.hdr h0;have hp:L.pre b [c]=LS.beginL L.core (b++ [c]):=by unfold LS.pre;rw[if_pos h0];rfl
  rw[hp];unfold LS.one;simp only;rw[if_pos (show L.core.st=0 from h0)];by_cases q:b++ [c]=hdrB.take (b.length+1)
  ·rw[if_pos q];by_cases q7:b.length=7
   ·rw[if_pos q7];(have e8:b++ [c]=hdrB:=by rw[q,q7];rfl);unfold LS.beginL;rw[if_pos (by rw[e8];rfl),e8];unfold LS.post;simp only;rw[if_neg Wq,show hdrB.drop 8=[]from rfl,Yz];unfold LS.frames;rw[if_neg Wz];exact⟨rfl,fun _=>rfl⟩
   rw[if_neg q7];have e8:(b++ [c]).take 8=b++ [c]:=K1 Wq;unfold LS.beginL;rw[if_neg (fun k=>by rw[e8]at k;have:=congrArg K2 k;omega),if_pos ⟨by omega,by rw[hl];exact q⟩];unfold LS.post;rw[if_pos (.inl (show L.core.st=0 from h0))];exact⟨rfl,fun _=>rfl⟩
  rw[if_neg q];unfold LS.beginL;have e8:(b++ [c]).take 8=b++ [c]:=K1 Wq
  rw[if_neg (fun k=>by
   rw[e8]at k;have h1:=congrArg K2 k;refine q ?_;rw[k,show b.length+1=8 by omega]
   rfl),if_neg (fun k=>q (by have:=k.2;rw[hl]at this;exact this))]
  unfold LS.post;rw[if_pos (.inr rfl)];exact⟨rfl,fun _=>rfl⟩
 obtain⟨ix,fJ⟩:=h.fr h0 h5;have hp:L.pre b [c]=(L.core,b++ [c]):=by unfold LS.pre;rw[if_neg h0];rfl
 rw[hp];have hs:L.core.st=L.st:=rfl;unfold LS.one LS.post;simp only;rw[if_neg (show ¬L.core.st=0 from h0),if_neg Wq];by_cases q:zN (b++ [c])=false
 ·rw[if_pos q,qA q];unfold LS.frames;rw[if_pos ⟨by simp,(show L.core.st≠5 from h5)⟩];exact⟨rfl,fun _=>rfl⟩
 rw[if_neg q];have q1:zN (b++ [c])=true:=by simpa using q
 by_cases k:12≤(b++ [c]).length∧frN (b++ [c])≤(b++ [c]).length
 ·rw[if_pos k]
  have hn:frN (b++ [c])=(b++ [c]).length:=by
   exact Z67_
  have hd:(b++ [c]).drop (frN (b++ [c]))=[]:=by rw[hn,kv]
  rw[qh q1 k.1 k.2,hd,Yz];unfold LS.frames;rw[if_neg Wz,LS.goes_cons ctl L.core _ [] h5];refine⟨rfl,fun _=>?_⟩;exact hd
 rw[if_neg k]
 have AQ:zu (b++ [c])=([],0,0):=by
  by_cases gi:(b++ [c]).length<12
  ·exact xa q1 gi
  exact qg q1 Wq Wq
 rw[AQ];unfold LS.frames;rw[if_neg Wz];exact⟨rfl,fun _=>rfl⟩
theorem XW{L:LS}(h:Idle L b)(s:List UInt8):(LS.ones ctl (L.core,b) s).1=(LS.feed ctl L b s).1∧((LS.feed ctl L b s).1.st≠5→(LS.ones ctl (L.core,b) s).2=(LS.feed ctl L b s).2)∧Idle (LS.ones ctl (L.core,b) s).1 (LS.ones ctl (L.core,b) s).2:=by
 by_cases h5:L.st=5
 ·have e:LS.feed ctl L b s=(L.core,b):=by unfold LS.feed;rw[if_pos h5];rfl
  rw[e,qy ctl (show L.core.st=5 from h5)];exact⟨rfl,fun _=>rfl,⟨h.hdr,h.fr⟩⟩
 induction hn:s.length generalizing s with
 | zero=>
  obtain rfl:=List.eq_nil_of_length_eq_zero hn
  have e:LS.feed ctl L b []=(L.core,b):=by
   unfold LS.feed;rw[if_neg h5];unfold LS.pre;by_cases h0:L.st=0
   ·obtain⟨bL,bE⟩:=h.hdr h0;rw[if_pos h0,ky];have h8:b.take 8=b:=K1 Wq;unfold LS.beginL;rw[if_neg (fun k=>by rw[h8]at k;have:=congrArg K2 k;have:hdrB.length=8:=rfl;omega),if_pos ⟨bL,bE⟩];unfold LS.post;rw[if_pos (.inl (show L.core.st=0 from h0))];rfl
   obtain⟨ix,fJ⟩:=h.fr h0 h5;rw[if_neg h0,ky]
   have AQ:zu b=([],0,0):=by
    by_cases gi:b.length<12
    ·exact xa ix gi
    exact qg ix Wq Wq
   unfold LS.post;simp only;rw[if_neg Wq,AQ];unfold LS.frames;rw[if_neg Wz];rfl
  rw[e]
  exact⟨rfl,fun _=>rfl,⟨h.hdr,h.fr⟩⟩
 | succ n ih=>
  obtain⟨s,c,rfl⟩:∃t c,s=t++ [c]:=⟨s.dropLast,s.getLast (by intro e;rw[e]at hn;cases hn),(List.dropLast_concat_getLast _).symm⟩
  obtain⟨i1,i2,i3⟩:=ih s (by simpa using hn);obtain⟨a1,a2⟩:=zbH hc L b s [c];rw[ZZ];generalize LS.ones ctl (L.core,b) s=q at*;generalize LS.feed ctl L b s=F at*;by_cases q5:q.1.st=5
  ·rw[if_pos q5];(have e:LS.feed ctl F.1 F.2 [c]=(F.1.core,F.2):=by unfold LS.feed;rw[if_pos (by rw[←i1];exact q5)];rfl);rw[e]at a1;(have ai:(LS.feed ctl L b (s++ [c])).1=F.1:=by rw[a1];exact LS.core_lead _);rw[ai];exact⟨i1,fun k=>absurd (by rw[←i1];exact q5) k,i3⟩
  rw[if_neg q5];have F5:F.1.st≠5:=by rw[←i1];exact q5
  have e2:=i2 F5;have hq:q=(F.1,F.2):=Prod.ext i1 e2;rw[hq]at i3 ⊢;obtain⟨o1,o2⟩:=zbE hc i3 F5 c;have ol:=zbC hc F.1.core F.2 c F.1.sent F.1.told;rw[LS.core_lead]at ol;refine⟨?_,fun k=>?_,zbD hc i3 F5 c⟩
  ·rw[a1,o1,ol]
  rw[a2 k,ol];refine(o2 ?_).symm;rw[a1]at k;exact k
end
end
structure RlX(w:World)(B:Nat)(U T:Nat→Prop)(lb gb:Nat)(l:List Fr)(b:List UInt8)(L:LS)(TT:Option Addr)(tc:Nat)(th:List TAs)(F:Nat→Prop):Prop where
 box:Box w lb 38 #[.int .i64 (L.st:Int),.string (str b),.pointer (some ⟨gb,0,none⟩),.int .u64 (L.ch:Int),.int .u64 (L.sz:Int),.string (str L.sent),.slice TT L.told.length tc]
 row:OwnT w B TT L.told.length tc th
 tl:L.told=th.map (·.a)
 el:∀x∈th,OwnG w 0 x.A x.a.segs.length x.c x.a.segs∧∀k,blk x.A=some k→T k
 ga:RGa w F gb L.g l
 fu:∀k,F k→U k
 tt:∀k,blk TT=some k→U k∧k≠lb∧¬F k
 fl:¬F lb
 lb:U lb
 size:B≤w.heap.size
 uB:∀b,U b→B≤b∧b<w.heap.size
 tB:∀b,T b→b<w.heap.size
 ut:∀b,T b→¬U b
def RlM(w:World)(B:Nat)(U T:Nat→Prop)(lb gb:Nat)(l:List Fr)(b:List UInt8)(L:LS):Prop:=∃TT tc th F,RlX w B U T lb gb l b L TT tc th F
theorem RlX.keep{l:List Fr}{L:LS}{th:List TAs}(h:RlX w B U T lb gb l b L TT tc th F){G:Nat→Prop}(hk:KeepF G w w')(hU:∀k,U k→¬G k)(hT:∀k,T k→¬G k):RlX w' B U T lb gb l b L TT tc th F where
 box:=zV h.box hk (hU _ h.lb)
 row:=zy h.row hk (fun k e=>hU _ (h.tt k e).1)
 tl:=h.tl
 el:=fun x hx=>⟨zy (h.el x hx).1 hk (fun k e=>hT _ ((h.el x hx).2 k e)),(h.el x hx).2⟩
 ga:=h.ga.keep hk (fun k e=>hU _ (h.fu k e))
 fu:=h.fu
 tt:=h.tt
 fl:=h.fl
 lb:=h.lb
 size:=K0 h.size hk.1
 uB:=fun b hb=>⟨(h.uB b hb).1,KS (h.uB b hb).2 hk.1⟩
 tB:=fun b hb=>KS (h.tB b hb) hk.1
 ut:=h.ut
theorem RlX.below{l:List Fr}{L:LS}{th:List TAs}(h:RlX w B U T lb gb l b L TT tc th F)(hB:Below w.heap.size w w'):RlX w' B U T lb gb l b L TT tc th F:=
 h.keep (KeepF.below (F:=fun _=>False) hB) (fun _ _ e=>e) (fun _ _ e=>e)
theorem RlX.put{l:List Fr}{b':List UInt8}{L L':LS}{th:List TAs}(h:RlX w B U T lb gb l b L TT tc th F)(hg:w.grownBy w' (some lb))(h1:L'.g=L.g)(h2:L'.told=L.told)
  (hb:Box w' lb 38 #[.int .i64 (L'.st:Int),.string (str b'),.pointer (some ⟨gb,0,none⟩),.int .u64 (L'.ch:Int),.int .u64 (L'.sz:Int),.string (str L'.sent),.slice TT L.told.length tc]):RlX w' B U T lb gb l b' L' TT tc th F:=by
 have hk:KeepF (fun k=>k=lb) w w':=.grown hg (fun g e=>.inl uq);refine⟨by rw[h2];exact hb,by rw[h2];exact zy h.row hk (fun k e=>(h.tt k e).2.1),by rw[h2];exact h.tl,fun x hx=>⟨zy (h.el x hx).1 hk (fun k e e2=>h.ut k ((h.el x hx).2 k e) (e2▸h.lb)),(h.el x hx).2⟩,?_,h.fu,h.tt,h.fl,h.lb,K0 h.size hk.1,fun b hb=>⟨(h.uB b hb).1,KS (h.uB b hb).2 hk.1⟩,fun b hb=>KS (h.tB b hb) hk.1,h.ut⟩;rw[h1];exact h.ga.keep hk (fun k e e2=>h.fl (e2▸e))
def RStep(w:World)(B:Nat)(U T:Nat→Prop)(lb gb:Nat)(l:List Fr)(b:List UInt8)(L:LS)(w':World):Prop:=
 ∃U' T',RlM w' B U' T' lb gb l b L∧KeepF U w w'∧(∀k,U' k→U k∨w.heap.size≤k)∧(∀k,T' k→T k∨U k∨w.heap.size≤k)
theorem RStep.of{w1:World}{U1 T1:Nat→Prop}{l:List Fr}{L:LS}(hk:KeepF U w w1)(hU:∀k,U1 k→U k∨w.heap.size≤k)(hT:∀k,T1 k→T k∨U k∨w.heap.size≤k)(h:RStep w1 B U1 T1 lb gb l b L w2):RStep w B U T lb gb l b L w2:=by
 exact Z3a_
theorem RStep.from{w1:World}{l:List Fr}{L:LS}(hB:Below w.heap.size w w1)(h:RStep w1 B U T lb gb l b L w2):RStep w B U T lb gb l b L w2:=
 .of (.below hB) (fun _ h=>.inl h) (fun _ h=>.inl h) h
theorem RStep.mk{l:List Fr}{L:LS}{th:List TAs}(h:RlX w' B U T lb gb l b L TT tc th F)(hk:KeepF U w w'):RStep w B U T lb gb l b L w':=
 ⟨U,T,⟨TT,tc,th,F,h⟩,hk,fun _ h=>.inl h,fun _ h=>.inl h⟩
theorem CtlG.r{code:Nat}{L:List SA}{bs:List UInt8}(h:CtlG code L bs):XC code L bs:=za9 h.cd h.n h.l h.g h.p h.k
theorem zdD:XC 1 [⟨true,0,[112,111,115,116,104,111,117,115,101]⟩] startB:=ctlg1.r
theorem zdE:XC 5 [⟨true,255,[]⟩,⟨true,4096,[]⟩] v6:=ctlg5.r
theorem zdF:XC 8 [] Zs:=ctlg8.r
theorem zcZ:XC 12 [] Zt:=ctlg12.r
theorem zc0(code:Nat)(text:List UInt8)(hc:code<65536)(ht:text.length<256):XC 11 [⟨true,code,[]⟩,⟨true,0,text⟩] (xV code text):=(zbR code text hc ht).r
theorem QQ{o:Oper}{ev:Operand→Value}{x y:Operand}{n1 n2:Int}{s1 s2:ByteArray}(ho:o.op= .buildSlice 82 2 #[(0,x),(1,y)])(hx:ev x= .agg #[.bool true,.int .u64 (n1),.string (s1),.int .u32 0,.string ⟨#[]⟩,.string ⟨#[]⟩,.slice none 0 0,.int .u8 0,.int .u64 0,.string ⟨#[]⟩,.slice none 0 0,.slice none 0 0])(hy:ev y= .agg #[.bool true,.int .u64 (n2),.string (s2),.int .u32 0,.string ⟨#[]⟩,.string ⟨#[]⟩,.slice none 0 0,.int .u8 0,.int .u64 0,.string ⟨#[]⟩,.slice none 0 0,.slice none 0 0]):
  (execOp ev o).run prog w= .ok (.value (.slice (some ⟨w.heap.size,0,none⟩) 2 2)) (w.alloc (.cells #[.bool true,.int .u64 (n1),.string (s1),.int .u32 0,.string ⟨#[]⟩,.string ⟨#[]⟩,.slice none 0 0,.int .u8 0,.int .u64 0,.string ⟨#[]⟩,.slice none 0 0,.slice none 0 0,.bool true,.int .u64 (n2),.string (s2),.int .u32 0,.string ⟨#[]⟩,.string ⟨#[]⟩,.slice none 0 0,.int .u8 0,.int .u64 0,.string ⟨#[]⟩,.slice none 0 0,.slice none 0 0] 80)):=by
 unfold execOp;simp only[ho];go_simp
theorem zaC{o:Oper}{ev:Operand→Value}{x:Operand}{n1:Int}{s1:ByteArray}(ho:o.op= .buildSlice 82 1 #[(0,x)])(hx:ev x= .agg #[.bool true,.int .u64 (n1),.string (s1),.int .u32 0,.string ⟨#[]⟩,.string ⟨#[]⟩,.slice none 0 0,.int .u8 0,.int .u64 0,.string ⟨#[]⟩,.slice none 0 0,.slice none 0 0])(_h:x=x):
  (execOp ev o).run prog w= .ok (.value (.slice (some ⟨w.heap.size,0,none⟩) 1 1)) (w.alloc (.cells #[.bool true,.int .u64 (n1),.string (s1),.int .u32 0,.string ⟨#[]⟩,.string ⟨#[]⟩,.slice none 0 0,.int .u8 0,.int .u64 0,.string ⟨#[]⟩,.slice none 0 0,.slice none 0 0] 80)):=by
 unfold execOp;simp only[ho];go_simp
theorem yO(code:Nat)(text:List UInt8)(gX:code<65536)(lI:text.length<256){l:List Fr}{L:LS}(h:RlM w B U T lb gb l b L)(Bm:L.sz≤1000000)(hs:L.sent.length≤10000000000):
  Calls prog 34 #[.pointer (some ⟨lb,0,none⟩),.int .u64 (code:Int),.string (str text)] w fun e w'=>e= .returned (.tuple #[])∧RStep w B U T lb gb l b (L.close code text) w':=by
 exact Zh_
def GetR(w0:World)(b:List UInt8)(m:Mt)(er:Int):Prop:=∀(A:Option Addr) (n c:Nat) (W:World),Below w0.heap.size w0 W→RdB W W.heap.size A n c b→
 Calls prog 91 #[.slice A n c] W fun e w'=>∃A2 c2,e= .returned (.tuple #[.agg (mtV m A2 c2),.int .i64 er])∧RM w' (FN W.heap.size w') m A2 c2∧Below W.heap.size W w'
theorem Y5(a:As)(sg:Sg)(rest:List Sg)(gB:a.segs=sg::rest)(m:Mt)(er:Int)(uT:GetR w sg.load m er)(bQ:er=0→m.args.length=(yv (yp m.cls m.code)).length)(A:Option Addr)(c:Nat){l:List Fr}{L:LS}
  (h:RlM w B U T lb gb l b L) (hO:OwnG w 0 A a.segs.length c a.segs) (GH:sg.load.length≤1000000) (Bm:L.sz≤1000000) (hs:L.sent.length≤10000000000):
  Calls prog 58 #[.pointer (some ⟨lb,0,none⟩),.agg (asV a.chan a.track A a.segs.length c)] w fun e w'=>e= .returned (.tuple #[])∧RStep w B U T lb gb l b (L.ctlM a m er) w':=by
 obtain⟨TT,tc,th,F,h⟩:=h;unfold asV;obtain⟨N,hN⟩:∃N,N=a.segs.length:=⟨_,rfl⟩
 rw[←hN]at hO ⊢;have uG:0<N:=by rw[hN,gB];simp
 rw[gB]at hO;obtain⟨ab,off,rfl,Br,bK,bD⟩:=qm xd hO.rd uG;have z1:=bD 1 _ rfl;simp only[q4,q6,Vy]at z1;clear hN gB bK bD hO;have g0:(0:Int)<(N:Int):=by omega
 obtain⟨xb,w0,bC,bh,hX,Hr⟩:=zo w #[.int .u16 (a.chan:Int),.int .u8 (a.track:Int),.slice (some ⟨ab,off,none⟩) N c] 42;have h0:=h.below Hr;go_enter func58,ntmps58;go_upto_region 1 with fail;rw[←bC,←bh];clear bC bh;have x2:=hX.c2;have z2:=(Hr.cell (p:=⟨ab,off+1,none⟩) (by first|exact Br|omega)).trans z1;clear z1;go_wp2_with(first|(with_reducible refine zU ?_)|(with_reducible refine yl ?_)|(with_reducible refine yk ?_)|(with_reducible refine yd ?_)|(with_reducible refine ym (s:=9) (t:=55) ?_));refine zc (Q0 underlying9 underlying55 underlying5 rfl rfl rfl (l:=sg.load) Wq ?_);intro c3 w3 cl Hh;have gz:=Hr.trans (Hh.mono Hr.size);have f8:=uT _ _ c3 w3 gz cl;clear uT x2 z2 cl;go_wp2_with(with_reducible refine h_A ?_);refine f8.mono ?_;rintro e w4 ⟨A2,c2,rfl,mu,Hn⟩;clear f8;unfold mtV;obtain⟨rb,w5,bC,bh,hR,bz⟩:=yT w4 #[.int .u8 0,.int .u8 0,.bool false,.slice none 0 0] 106;have gG:=mu.mono (fun g hg=>hg.2)
 have PK:Hid (∀g,blk A2=some g→0<m.args.length→w.heap.size≤g):=Q1 fun g hg h0=>by
  obtain⟨xs,e,h1,h2⟩:=mu.row;exact K0 gz.size (h1.2 h0 g hg).1
 have pq:=Hh.trans (Hn.mono Hh.size);have mH:=Hr.trans (pq.mono Hr.size);have Ld:w4.heap.size≤rb:=by rw[bC];exact KL _
 clear mu Hh Hn gz;go_wp2_with(with_reducible refine h_B ?_);rw[←bC,←bh];clear bC bh;refine zc (zm (v:=.agg #[.int .u8 (m.cls:Int),.int .u8 (m.code:Int),.bool m.sync,.slice A2 m.args.length c2]) (vs:=[.int .u8 (m.cls:Int),.int .u8 (m.code:Int),.bool m.sync,.slice A2 m.args.length c2]) rfl rfl rfl rfl hR rfl Wj Wz qP #[.int .u8 (m.cls:Int),.int .u8 (m.code:Int),.bool m.sync,.slice A2 m.args.length c2] Wz ?_);intro wm Do bm ej;clear ej;have mF:Below w4.heap.size w4 wm:=bz.grown bm bz.size Wx;have hB:=mH.trans (mF.mono mH.size);have oe:=hX.below (pq.trans (mF.mono pq.size));have pO:=gG.up mF;replace h0:=h.below hB;have hh3:=h.box.lt;have hcg:w.heap.size≤rb:=K0 mH.size Ld;have y0:=Do.c0;have y1:=Do.c1;have y3:=Do.c3;have x1:=oe.c1;have c0:=h0.box.c0;clear h hR bz bm pq mH mF gG hX Hr;go_upto_region 2 with fail;by_cases q1:a.track=0
 ·have d1:((a.track:Int)!=0)=false:=by rw[q1];rfl
  by_cases q2:er=0
  ·(have d2:(er !=0)=false:=by rw[q2];rfl);by_cases q3:m.cls=1
   ·(have d3:((m.cls:Int)!=1)=false:=by rw[q3];rfl);have HQ:Hid (a.track=0∧er=0∧m.cls=1):=Q1 ⟨q1,q2,q3⟩
    have B6:L.ctlM a m er=if m.code=2∧L.st=1 then{L.send v6 with st:=2}else if m.code=6∧L.st=2 then L.tuned (m.args.getD 0 (ag0 false)).n (m.args.getD 1 (ag0 false)).n else if m.code=7∧L.st=3 then L.opened (m.args.getD 0 (ag0 false)).s else if m.code=11 then{L.send Zt with st:=5}else L.close 501 yr:=by
     unfold LS.ctlM ctlK;rw[if_neg (by rw[q1,q2];simp),q3];by_cases e2:m.code=2
     ·simp[e2]
     by_cases e6:m.code=6
     ·simp[e6]
     by_cases e7:m.code=7
     ·simp[e7]
     by_cases Tt:m.code=11
     ·simp[Tt]
     simp[e2,e6,e7,Tt]
    have HC:=Q1 B6;have ln:Hid (m.args.length=(yv (yp 1 m.code)).length):=Q1 (by rw[←q3];exact bQ q2);clear q1 q2 q3 B6 bQ;go_upto_region 5 with fail;clear d1 d2 d3 x1;(obtain⟨Y,hY⟩:∃Y,Y=decide (m.code=2∧L.st=1):=⟨_,rfl⟩);go_upto_region 5 with fail;go_cut [32]from 33 (fun s wx=>s= .bool Y∧wm=wx)
    case first=>
     exact Z27_
    obtain⟨rfl,rfl⟩:=hcut;have HY:=Q1 hY;clear hY
    cases Y with
    | true=>
     as_aux_lemma=>
     have HR:Hid (L.ctlM a m er={L.send v6 with st:=2}):=Q1 (by rw[HC.out,if_pos (of_decide_eq_true HY.out.symm)]);(have dD:∀W,Calls prog 30 #[.int .u64 255,.string ⟨#[]⟩] W fun e w'=>e= .returned (.agg #[.bool true,.int .u64 (255),.string (⟨#[]⟩),.int .u32 0,.string ⟨#[]⟩,.string ⟨#[]⟩,.slice none 0 0,.int .u8 0,.int .u64 0,.string ⟨#[]⟩,.slice none 0 0,.slice none 0 0])∧Below W.heap.size W w':=fun W=>jr 255 [] W);(have db:∀W,Calls prog 30 #[.int .u64 4096,.string ⟨#[]⟩] W fun e w'=>e= .returned (.agg #[.bool true,.int .u64 (4096),.string (⟨#[]⟩),.int .u32 0,.string ⟨#[]⟩,.string ⟨#[]⟩,.slice none 0 0,.int .u8 0,.int .u64 0,.string ⟨#[]⟩,.slice none 0 0,.slice none 0 0])∧Below W.heap.size W w':=fun W=>jr 4096 [] W);(have fh:∀(W:World) (A:Option Addr),Rd W W.heap.size 12 A 2 2 (rowC saC [⟨true,255,[]⟩,⟨true,4096,[]⟩])→RlX W B U T lb gb l b L TT tc th F→Calls prog 29 #[.pointer (some ⟨lb,0,none⟩),.int .u8 5,.slice A 2 2] W fun e w'=>e= .returned (.string (str (ctlB L.sz v6)))∧Below W.heap.size W w':=fun W A hr hx=>j3 5 _ _ zdE WJ lb L.sz A 2 2 W hr (hx.box.cell (j:=4) rfl) Bm);have bD:(ctlB L.sz v6).length≤10000:=K0 (jl _ _) WJ;(obtain⟨cb,Bs⟩:∃cb,cb=ctlB L.sz v6:=⟨_,rfl⟩);rw[←Bs]at fh bD;have ro:=Q1 Bs;clear Bs;have BW:=zh L.sent;have cj:=zh cb;(have o4:(9223372036854775807<L.sent.length+cb.length)=False:=by simp;omega);go_upto_region 6 with fail;go_cut []from 43 (fun wx=>RlX wx B U T lb gb l b {L with sent:=L.sent++cb} TT tc th F∧KeepF U w wx)
     case first=>
      clear y0 y1 y3 c0;have B9:Below (wm).heap.size wm (wm).drew:=za (Q2 _ wm) 1;replace h0:=h0.below B9;replace hB:=hB.trans (B9.mono hB.size);clear B9;refine jd 13 (fun W:World=>W.cell? ⟨lb,5,none⟩=some (.string (str L.sent))) Wj ?_;have hS:=h0.box.c5;simp only[q9,List.getElem_cons_succ,Vy]at hS;generalize(wm).drew=wd at*;refine yi 0 hS ?_;(try simp only[g_S]);refine yi 1 hS ?_;(try simp only[g_S]);refine yi 2 hS ?_;(try simp only[g_S]);refine yi 3 hS ?_;(try simp only[g_S]);refine yi 4 hS ?_;(try simp only[g_S]);refine yi 5 hS ?_;(try simp only[g_S]);refine yH 6 rfl Wj rfl (fun K hK=>?_);go_simp
      (with_reducible refine(dD _).mono ?_)
      rintro e w1 ⟨rfl,Ha⟩;replace hS:=(Ha.cell (p:=⟨lb,5,none⟩) h0.box.lt).trans hS;refine hK _ _ (fun _=>hS) ?_;clear hK K;replace h0:=h0.below Ha;replace hB:=hB.trans (Ha.mono hB.size);clear Ha;(try simp only[g_S]);refine yH 7 rfl Wj rfl (fun K hK=>?_);go_simp
      (with_reducible refine(db _).mono ?_)
      rintro e w2 ⟨rfl,Ha⟩;replace hS:=(Ha.cell (p:=⟨lb,5,none⟩) h0.box.lt).trans hS;refine hK _ _ (fun _=>hS) ?_;clear hK K;replace h0:=h0.below Ha;replace hB:=hB.trans (Ha.mono hB.size);clear Ha;(try simp only[g_S]);refine yH 8 rfl Wj rfl (fun K hK=>?_);obtain⟨ab,w3,bC,bh,hG,Ha⟩:=zo w2 #[.bool true,.int .u64 (255),.string (⟨#[]⟩),.int .u32 0,.string ⟨#[]⟩,.string ⟨#[]⟩,.slice none 0 0,.int .u8 0,.int .u64 0,.string ⟨#[]⟩,.slice none 0 0,.slice none 0 0,.bool true,.int .u64 (4096),.string (⟨#[]⟩),.int .u32 0,.string ⟨#[]⟩,.string ⟨#[]⟩,.slice none 0 0,.int .u8 0,.int .u64 0,.string ⟨#[]⟩,.slice none 0 0,.slice none 0 0] 80;have b7:=yq (w:=w2) (w2).heap.size #[.bool true,.int .u64 (255),.string (⟨#[]⟩),.int .u32 0,.string ⟨#[]⟩,.string ⟨#[]⟩,.slice none 0 0,.int .u8 0,.int .u64 0,.string ⟨#[]⟩,.slice none 0 0,.slice none 0 0,.bool true,.int .u64 (4096),.string (⟨#[]⟩),.int .u32 0,.string ⟨#[]⟩,.string ⟨#[]⟩,.slice none 0 0,.int .u8 0,.int .u64 0,.string ⟨#[]⟩,.slice none 0 0,.slice none 0 0] 80 2 (KL _) WX (size:=12) rfl Wq;rw[←bh,←bC]at b7;have eF:Rd w3 w3.heap.size 12 (some ⟨ab,0,none⟩) 2 2 (rowC saC [⟨true,255,[]⟩,⟨true,4096,[]⟩]):=b7.rd;refine Y3 (QQ rfl rfl rfl) ?_;rw[←bh,←bC];replace hS:=(Ha.cell (p:=⟨lb,5,none⟩) h0.box.lt).trans hS;refine hK _ _ (fun _=>hS) ?_;clear hK K b7 bh bC hG;replace h0:=h0.below Ha;replace hB:=hB.trans (Ha.mono hB.size);clear Ha;(try simp only[g_S]);refine yH 9 rfl Wj rfl (fun K hK=>?_);have fz:=fh w3 _ eF h0;go_simp
      (with_reducible refine(fz).mono ?_)
      rintro e w4 ⟨rfl,Ha⟩;replace hS:=(Ha.cell (p:=⟨lb,5,none⟩) h0.box.lt).trans hS;refine hK _ _ (fun _=>hS) ?_;clear hK K;replace h0:=h0.below Ha;replace hB:=hB.trans (Ha.mono hB.size);clear Ha;(try simp only[g_S]);clear fz;refine yi 10 hS ?_;(try simp only[g_S]);simp only[jn];refine yi 11 hS ?_;(try simp only[g_S]);refine yi 12 hS ?_;(try simp only[g_S]);refine yH 13 rfl Wj rfl (fun K hK=>?_);exact Z4i_
     obtain⟨h1,dw⟩:=hcut;clear h0;go_wp2_with(with_reducible refine h_B ?_);refine zc (zm (v:=.int .i64 2) (vs:=[.int .i64 2]) rfl rfl rfl rfl h1.box rfl Wj Wz WZ #[.int .i64 (2),.string (str b),.pointer (some ⟨gb,0,none⟩),.int .u64 (L.ch:Int),.int .u64 (L.sz:Int),.string (str (L.sent++cb)),.slice TT L.told.length tc] Wz ?_);intro w6 cJ bm ej;clear ej;have h2:=h1.put (L':={L with sent:=L.sent++cb,st:=2}) bm rfl rfl cJ;have Bk:=dw.trans (.grown (F:=U) bm (fun g e=>.inl UX)) (fun _ h=>.inl h);rw[ro.out]at h2;clear h1 dw;go_wp2_with(with_reducible refine h_B ?_);go_end0
     exact⟨rfl,by rw[HR.out];exact RStep.mk h2 Bk⟩
    | false=>
     have cM:=Q1 (HC.out.trans (if_neg (of_decide_eq_false HY.out.symm)));clear HC HY;(obtain⟨Y,hY⟩:∃Y,Y=decide (m.code=6∧L.st=2):=⟨_,rfl⟩);go_upto_region 8 with fail;go_cut [59]from 60 (fun s wx=>s= .bool Y∧wm=wx)
     case first=>
      have qqay:=();exact Z27_
     obtain⟨rfl,rfl⟩:=hcut;have HY:=Q1 hY;clear hY
     cases Y with
     | true=>
      as_aux_lemma=>
      have rD:=Q1 (cM.out.trans (if_pos (of_decide_eq_true HY.out.symm)));(have cR:m.args.length=2:=by rw[ln.out,(of_decide_eq_true HY.out.symm).1];rfl);obtain⟨LE,AN,hx,rfl,ra,hc⟩:=pO.elem (i:=0) Wq;obtain⟨ab2,WD,CP,FI,aa,ck⟩:=pO.elem (i:=1) Wq;(injection FI with FI);(injection FI with q1 q2 _);subst q1 q2;(have e0:m.args[0]=m.args.getD 0 (ag0 false):=by rw[kI,Wb Wq];rfl);(have e1:m.args[1]=m.args.getD 1 (ag0 false):=by rw[kI,Wb Wq];rfl);have z1:=hc wm (Q2 _ _) 1 _ rfl;have z2:=ck wm (Q2 _ _) 1 _ rfl;rw[e0]at z1;rw[e1]at z2;simp only[q4,q6,Nat.one_mul]at z1 z2;(obtain⟨x,GC⟩:∃x,x=(m.args.getD 0 (ag0 false)).n:=⟨_,rfl⟩);(obtain⟨y,GU⟩:∃x,x=(m.args.getD 1 (ag0 false)).n:=⟨_,rfl⟩);rw[←GC]at z1;rw[←GU]at z2;have wU:Hid (L.ctlM a m er=L.tuned x y):=Q1 (by rw[rD.out,GC,GU]);rw[cR]at Do y3;have Lw:=World.block_lt_of_cell? _ _ z1;have hf9:=PK.out LE rfl Wq;clear hc ck e0 e1 GC GU ra aa pO rD cM ln cR;by_cases q1:255<x
      ·have qqbl:=();exact Z2h_
      (have d1:¬(255:Int)<(x:Int):=by omega);by_cases q2:y<256
      ·have qqbm:=();exact Z2h_
      (have d2:¬(y:Int)<256:=by omega);by_cases q3:4096<y
      ·exact Z2h_
      have HR:=Q1 (wU.out.trans (show L.tuned x y={L with ch:=x,sz:=y,st:=3} by unfold LS.tuned;rw[if_neg Wq]));(have d3:¬(4096:Int)<(y:Int):=by omega);clear q1 q2 q3;go_wp2_with(with_reducible refine h_B ?_);refine zc (zm (j:=3) (v:=.int .u64 (x:Int)) (vs:=[.int .u64 (x:Int)]) rfl rfl rfl rfl h0.box rfl Wj Wz WZ #[.int .i64 ((L.st:Int)),.string (str b),.pointer (some ⟨gb,0,none⟩),.int .u64 (x:Int),.int .u64 (L.sz:Int),.string (str (L.sent)),.slice TT L.told.length tc] Wz ?_);intro w6 cJ bm ej;clear ej;have h1:=h0.put (L':={L with ch:=x}) bm rfl rfl cJ;have dw:=(KeepF.below (F:=U) hB).trans (.grown (F:=U) bm (fun g e=>.inl Ux)) (fun _ h=>.inl h);have iL:=Do.grown bm ux;have u3:=iL.c3;have u2:=(bm.cell_far ⟨LE,AN+12+1,none⟩ Lw (fun e=>by injection e with e;exact absurd (show LE=lb from e) Wq)).trans z2;clear h0 y0 y1 y3 c0 z1 z2 Do;go_wp2_with(with_reducible refine h_B ?_);refine zc (zm (j:=4) (v:=.int .u64 (y:Int)) (vs:=[.int .u64 (y:Int)]) rfl rfl rfl rfl h1.box rfl Wj Wz WZ #[.int .i64 ((L.st:Int)),.string (str b),.pointer (some ⟨gb,0,none⟩),.int .u64 (x:Int),.int .u64 (y:Int),.string (str (L.sent)),.slice TT L.told.length tc] Wz ?_);intro w7 gw H9 uV;clear uV u2 u3;have h2:=h1.put (L':={L with ch:=x,sz:=y}) H9 rfl rfl gw;have Bk:=dw.trans (.grown (F:=U) H9 (fun g e=>.inl UX)) (fun _ h=>.inl h);go_wp2_with(with_reducible refine h_B ?_);refine zc (zm (v:=.int .i64 3) (vs:=[.int .i64 3]) rfl rfl rfl rfl h2.box rfl Wj Wz WZ #[.int .i64 (3),.string (str b),.pointer (some ⟨gb,0,none⟩),.int .u64 (x:Int),.int .u64 (y:Int),.string (str (L.sent)),.slice TT L.told.length tc] Wz ?_);intro w8 ph H5 Dc;clear Dc;have h3:=h2.put (L':={L with ch:=x,sz:=y,st:=3}) H5 rfl rfl ph;have ft:=Bk.trans (.grown (F:=U) H5 (fun g e=>.inl (by injection e with e;rw[←e];exact h2.lb))) (fun _ h=>.inl h);go_wp2_with(with_reducible refine h_B ?_);go_end0
      exact⟨rfl,by rw[HR.out];exact RStep.mk h3 ft⟩
     | false=>
      have rD:=Q1 (cM.out.trans (if_neg (of_decide_eq_false HY.out.symm)));clear cM HY;(obtain⟨Y,hY⟩:∃Y,Y=decide (m.code=7∧L.st=3):=⟨_,rfl⟩);go_upto_region 14 with fail;go_cut [113]from 114 (fun s wx=>s= .bool Y∧wm=wx)
      case first=>
       have qqaz:=();exact Z27_
      obtain⟨rfl,rfl⟩:=hcut;have HY:=Q1 hY;clear hY
      cases Y with
      | true=>
       as_aux_lemma=>
       have wU:=Q1 (rD.out.trans (if_pos (of_decide_eq_true HY.out.symm)));(have cR:m.args.length=1:=by rw[ln.out,(of_decide_eq_true HY.out.symm).1];rfl);obtain⟨LE,AN,hx,rfl,ra,hc⟩:=pO.elem (i:=0) Wq;(have e0:m.args[0]=m.args.getD 0 (ag0 false):=by rw[kI,Wb Wq];rfl);have z1:=hc wm (Q2 _ _) 2 _ rfl;rw[e0]at z1;simp only[q4,q6]at z1;(obtain⟨s,Gw⟩:∃s,s=(m.args.getD 0 (ag0 false)).s:=⟨_,rfl⟩);rw[←Gw]at z1;have UU:Hid (L.ctlM a m er=L.opened s):=Q1 (by rw[wU.out,Gw]);rw[cR]at Do y3;clear hc e0 Gw ra pO wU rD ln cR HY;(obtain⟨Y,hY⟩:∃Y,Y=decide (s≠ []∧s≠ [47]):=⟨_,rfl⟩);go_upto_region 15 with fail;go_cut [137]from 124 (fun s wx=>s= .bool Y∧wm=wx)
       case first=>
        by_cases q1:s=[]
        ·have lw:Hid (Y=false):=Q1 (by rw[hY];simp[q1]);subst q1;(have d0:(str ([]:List UInt8)).toList=[]:=by rw[zn]);clear hY;go_wp2_with fail;go_meet
         case rel=>exact⟨by rw[lw.out],rfl⟩
        have qq98:=();exact Z1s_
       obtain⟨rfl,rfl⟩:=hcut;have HY:=Q1 hY;clear hY
       cases Y with
       | true=>
        exact Z2j_
       | false=>
        have qq36:=()
        exact Zh_
      | false=>
       have wU:=Q1 (rD.out.trans (if_neg (of_decide_eq_false HY.out.symm)));clear rD HY
       as_aux_lemma=>
       by_cases q1:m.code=11
       ·have qq38:=();exact Zh_
       have qqb8:=();exact Z2b_
   exact Z2b_
  have qqb6:=();exact Z2b_
 have qqb7:=();exact Z2b_
theorem RlX.gath{l l':List Fr}{L:LS}{th:List TAs}{F':Nat→Prop}{g':GS}(h:RlX w B U T lb gb l b L TT tc th F)(hF:∀k,F' k→F k∨w.heap.size≤k)(cL:RGa w' F' gb g' l')(hk:KeepF F w w'):
  RlX w' B (fun k=>(U k∧¬F k)∨F' k) T lb gb l' b {L with g:=g'} TT tc th F':=by
 have hlt:=h.box.lt;have hs:=h.size;have hz:=hk.1;refine⟨zV h.box hk h.fl,zy h.row hk (fun k e=>(h.tt k e).2.2),h.tl,fun x hx=>⟨zy (h.el x hx).1 hk (fun k e e2=>h.ut k ((h.el x hx).2 k e) (h.fu k e2)),(h.el x hx).2⟩,cL,fun k e=>.inr e,fun k e=>⟨.inl ⟨(h.tt k e).1,(h.tt k e).2.2⟩,(h.tt k e).2.1,fun e2=>?_⟩,fun e=>?_,.inl ⟨h.lb,h.fl⟩,K0 hs hz,fun k hk'=>?_,fun k e=>KS (h.tB k e) hz,fun k e e2=>?_⟩
 ·rcases hF k e2 with e3|e3
  ·exact(h.tt k e).2.2 e3
  have:=(h.row.blk_lt e).2;omega
 ·rcases hF lb e with e3|e3
  ·exact h.fl e3
  omega
 ·rcases hk' with e|e
  ·exact⟨(h.uB k e.1).1,KS (h.uB k e.1).2 hz⟩
  refine⟨?_,cL.lt k e⟩;rcases hF k e with e2|e2
  ·exact(h.uB k (h.fu k e2)).1
  omega
 rcases e2 with e2|e2
 ·exact h.ut k e e2.1
 rcases hF k e2 with e3|e3
 ·exact h.ut k e (h.fu k e3)
 have:=h.tB k e;omega
theorem RlX.more{T2:Nat→Prop}{l:List Fr}{L:LS}{th:List TAs}(h:RlX w B U T lb gb l b L TT tc th F)(h1:∀k,T k→T2 k)(h2:∀k,T2 k→k<w.heap.size∧¬U k):RlX w B U T2 lb gb l b L TT tc th F:=
 ⟨h.box,h.row,h.tl,fun x hx=>⟨(h.el x hx).1,fun k e=>h1 k ((h.el x hx).2 k e)⟩,h.ga,h.fu,h.tt,h.fl,h.lb,h.size,h.uB,fun k e=>(h2 k e).1,fun k e=>(h2 k e).2⟩
def RTakeR(w:World)(B:Nat)(U T:Nat→Prop)(lb gb:Nat)(l:List Fr)(b:List UInt8)(L:LS)(f:Fr)(o:Option Nat)(cs:Array Value)(s5 s6:Value)(wx:World):Prop:=
 ∃(U' T':Nat→Prop) (l':List Fr),(∀k,o=some k→¬U' k∧¬T' k)∧l'.length≤l.length+1∧RlM wx B U' T' lb gb l' b {L with g:=L.g.next f}∧KeepF U w wx∧(∀k,U' k→U k∨w.heap.size≤k)∧(∀k,T' k→T k∨w.heap.size≤k)∧
  ((L.g.out f=none∧cs=asZ∧s5= .bool false∧s6= .int .i64 (L.g.err f:Int))∨
   (∃a A c,L.g.out f=some a∧cs=asV a.chan a.track A a.segs.length c∧s5= .bool true∧s6= .int .i64 0∧OwnG wx 0 A a.segs.length c a.segs∧∀k,blk A=some k→T' k))
theorem YB{v v':World}{l:List Fr}{L:LS}{f:Fr}{th:List TAs}{e:Ending}(h:RlX v B U T lb gb l b L TT tc th F)(hR:YC v F gb L.g l f e v'):
  ∃cs s5 s6,e= .returned (.tuple #[.agg cs,s5,s6])∧RTakeR v B U T lb gb l b L f none cs s5 s6 v':=by
 obtain⟨F',l',IR,cL,fD,hk,fX⟩:=hR;have hM:=h.gath IR cL hk;have Nr:KeepF U v v':=hk.weak (fun g hg=>.inl (h.fu g hg))
 have nW:∀k,(U k∧¬F k)∨F' k→U k∨v.heap.size≤k:=fun k e=>by
  rcases e with e|e
  ·exact .inl e.1
  rcases IR k e with e|e
  ·exact .inl (h.fu k e)
  exact .inr e
 rcases fX with⟨ho,rfl⟩|⟨a,A,c,ho,rfl,hG,hA⟩
 ·exact⟨_,_,_,rfl,_,T,l',(fun k e=>by cases e),fD,⟨_,_,_,_,hM⟩,Nr,nW,fun k e=>.inl e,.inl ⟨ho,rfl,rfl,rfl⟩⟩
 refine⟨_,_,_,rfl,_,fun k=>T k∨blk A=some k,l',(fun k e=>by cases e),fD,⟨_,_,_,_,hM.more (fun k e=>.inl e) (fun k e=>?_)⟩,Nr,nW,fun k e=>?_,.inr ⟨a,A,c,ho,rfl,rfl,rfl,hG,fun k e=>.inr e⟩⟩
 ·rcases e with e|e
  ·exact⟨hM.tB k e,hM.ut k e⟩
  refine⟨(hG.blk_lt e).2,fun e2=>?_⟩;have hh:=hA k e;rcases e2 with e2|e2
  ·have:=(h.uB k e2.1).2;omega
  exact hh.1 e2
 rcases e with e|e
 ·exact .inl e
 exact .inr (hA k e).2
theorem RTakeR.done{v0 v1 v3:World}{G:Nat→Prop}{l:List Fr}{L:LS}{f:Fr}{cs:Array Value}{s5 s6:Value}(h:RTakeR v0 B U T lb gb l b L f none cs s5 s6 v1)(hU:∀k,U k→k<w.heap.size)(hT:∀k,T k→k<w.heap.size)(hB:Below w.heap.size w v0)(hk:KeepF G v1 v3)
  (hG:∀k,G k→w.heap.size≤k∧(k<v0.heap.size∨v1.heap.size≤k)) (tb:Nat) (gQ:w.heap.size≤tb∧(tb<v0.heap.size∨v1.heap.size≤tb)):RTakeR w B U T lb gb l b L f (some tb) cs s5 s6 v3:=by
 obtain⟨U',T',l',h1,h2,⟨TT,tc,th,F,h3⟩,h4,h5,h6,h7⟩:=h;have hz:=hB.size;have eX:=h4.1
 have gU:∀k,U' k→¬(w.heap.size≤k∧(k<v0.heap.size∨v1.heap.size≤k)):=fun k e e2=>by
  have:=(h3.uB k e).2;rcases h5 k e with e3|e3
  ·have:=hU k e3;omega
  omega
 have gT:∀k,T' k→¬(w.heap.size≤k∧(k<v0.heap.size∨v1.heap.size≤k)):=fun k e e2=>by
  have:=h3.tB k e;rcases h6 k e with e3|e3
  ·have:=hT k e3;omega
  omega
 refine⟨U',T',l',fun k e=>?_,h2,⟨TT,tc,th,F,h3.keep hk (fun k e e2=>gU k e (hG k e2)) (fun k e e2=>gT k e (hG k e2))⟩,((KeepF.below hB).trans h4 (fun g hg=>.inl hg)).trans hk (fun g hg=>.inr (hG g hg).1),fun k e=>(h5 k e).imp id zAf,fun k e=>(h6 k e).imp id zAf,?_⟩
 ·injection e with e
  subst e;exact⟨fun e=>gU _ e gQ,fun e=>gT _ e gQ⟩
 rcases h7 with h7|⟨a,A,c,e1,e2,e3,e4,e5,e6⟩
 ·exact .inl h7
 exact .inr ⟨a,A,c,e1,e2,e3,e4,zy e5 hk (fun k e e2=>gT k (e6 k e) (hG k e2)),e6⟩
theorem RTakeR.size{l:List Fr}{L:LS}{f:Fr}{o:Option Nat}{cs:Array Value}{s5 s6:Value}{wx:World}(h:RTakeR w B U T lb gb l b L f o cs s5 s6 wx):∃x0 x1 x2,cs= #[x0,x1,x2]∧x0.oneCell'=true∧x1.oneCell'=true∧x2.oneCell'=true:=by
 obtain⟨U',T',_,_,_,_,_,_,_,h5⟩:=h;rcases h5 with⟨_,rfl,_⟩|⟨a,A,c,_,rfl,_⟩
 ·exact⟨_,_,_,rfl,rfl,rfl,rfl⟩
 exact⟨_,_,_,rfl,rfl,rfl,rfl⟩
theorem RlX.tells{w3:World}{l:List Fr}{L:LS}{pu:Option Addr}{Dq:Nat}{th:List TAs}(h:RlX w B U T lb gb l b L TT tc th F)(a:As)(A:Option Addr)(c:Nat)(hG:OwnG w 0 A a.segs.length c a.segs)(hA:∀k,blk A=some k→T k)
  (hO:OwnT w2 B pu (L.told.length+1) Dq (th++ [⟨a,A,c⟩])) (Hm:w.grownBy w2 (blk TT)) (Dh:blk pu=blk TT∨∀k,blk pu=some k→w.heap.size≤k) (H7:w2.grownBy w3 (some lb))
  (hb:Box w3 lb 38 #[.int .i64 (L.st:Int),.string (str b),.pointer (some ⟨gb,0,none⟩),.int .u64 (L.ch:Int),.int .u64 (L.sz:Int),.string (str L.sent),.slice pu (L.told.length+1) Dq]):RStep w B U T lb gb l b {L with told:=L.told++ [a]} w3:=by
 have Bk:KeepF (fun k=>blk TT=some k) w w2:=.grown Hm (fun g hg=>.inl hg);have ft:KeepF (fun k=>k=lb) w2 w3:=.grown H7 (fun g hg=>.inl Hx);have hk:KeepF (fun k=>k=lb∨blk TT=some k) w w3:=(Bk.weak (fun g hg=>.inl (.inr hg))).trans (ft.weak (G:=fun k=>k=lb∨blk TT=some k) (fun g hg=>.inl (.inl hg))) (fun g hg=>.inl hg);have hlt:=h.box.lt
 have eJ:∀k,blk pu=some k→k≠lb:=fun k e e2=>by
  rcases Dh with e3|e3
  ·rw[e3]at e;exact(h.tt k e).2.1 e2
  have:=e3 k e;omega
 have eN:=zy hO ft eJ;have hU:∀k,k=lb∨blk TT=some k→U k:=fun k e=>by rcases e with rfl|e;exact h.lb;exact(h.tt k e).1
 have hT:∀k,T k→¬(k=lb∨blk TT=some k):=fun k hk e=>h.ut k hk (hU k e)
 have en:=hk.1;refine⟨fun k=>U k∨(w.heap.size≤k∧blk pu=some k),T,⟨pu,Dq,th++ [⟨a,A,c⟩],F,?_,?_,?_,?_,?_,fun k hk'=>.inl (h.fu k hk'),fun k hb=>?_,h.fl,.inl h.lb,K0 h.size en,fun k hb=>?_,fun k hb=>KS (h.tB k hb) en,fun k hb e=>?_⟩,hk.weak (fun g hg=>.inl (hU g hg)),fun k hk=>by rcases hk with e|e;exact .inl e;exact .inr e.1,fun k hk=>.inl hk⟩
 ·rw[Vx];exact hb
 ·rw[Vx];exact eN
 ·rw[List.map_append,←h.tl];rfl
 ·intro x hx;rcases List.mem_append.1 hx with hx|hx
  ·exact⟨zy (h.el x hx).1 hk (fun k e=>hT _ ((h.el x hx).2 k e)),(h.el x hx).2⟩
  obtain rfl:x=⟨a,A,c⟩:=by simpa using hx
  exact⟨zy hG hk (fun k e=>hT _ (hA k e)),hA⟩
 ·exact h.ga.keep hk (fun k hF e=>by rcases e with e|e;exact h.fl (e▸hF);exact(h.tt k e).2.2 hF)
 ·rcases Dh with e2|e2
  ·rw[e2]at hb;exact⟨.inl (h.tt k hb).1,(h.tt k hb).2⟩
  exact⟨.inr ⟨e2 k hb,hb⟩,eJ k hb,fun hF=>by have:=h.ga.lt k hF;have:=e2 k hb;omega⟩
 ·rcases hb with hb|hb
  ·exact⟨(h.uB k hb).1,KS (h.uB k hb).2 en⟩
  exact eN.blk_lt hb.2
 rcases e with e|e
 ·exact h.ut k hb e
 have:=h.tB k hb;omega
theorem QL(ctl:LS→As→LS)(f:Fr){l:List Fr}{L:LS}(h:RlM w B U T lb gb l b L)(hl:f.load.length≤1000000)(Bm:L.sz≤1000000)(ii:L.ch<65536)(hfc:f.chan<65536)(hs:L.sent.length≤10000000000)(tz:L.told.length≤1000000000)
  (eU:∀(W:World) (F:Nat→Prop),RGa W F gb L.g l→Calls prog 57 #[.pointer (some ⟨gb,0,none⟩),.agg (frV f)] W (YC W F gb L.g l f))
  (B6:∀a A c W U' T' l',L.g.out f=some a→a.chan=0→RlM W B U' T' lb gb l' b {L with g:=L.g.next f}→OwnG W 0 A a.segs.length c a.segs→
   Calls prog 58 #[.pointer (some ⟨lb,0,none⟩),.agg (asV a.chan a.track A a.segs.length c)] W fun e w'=>e= .returned (.tuple #[])∧RStep W B U' T' lb gb l' b (ctl {L with g:=L.g.next f} a) w'):
  Calls prog 41 #[.pointer (some ⟨lb,0,none⟩),.agg (frV f)] w fun e w'=>e= .returned (.tuple #[])∧∃l2,l2.length≤l.length+1∧RStep w B U T lb gb l2 b (L.take ctl f) w':=by
 obtain⟨TT,tc,th,F,h⟩:=h;obtain⟨fb,w0,uH,pj,io,Hr⟩:=zo w (frV f) 97;have nR:w.heap.size≤fb:=by omega
 have h0:=h.below Hr;have c3:=h0.box.c3;have c4:=h0.box.c4;have dr:=zh f.load;unfold frV at pj io eU ⊢;have f6:=io.c6;have f7:=io.c7;go_enter func41,ntmps41;go_upto_region 1 with fail;rw[←uH,←pj];clear uH pj;by_cases q1:L.sz<f.load.length+12
 ·exact Z25_
 have d1:decide ((L.sz:Int)<(f.load.length:Int)+12)=false:=by simp;omega
 by_cases q2:L.ch<f.chan
 ·have qqal:=();exact Z25_
 have d2:¬(L.ch:Int)<(f.chan:Int):=by omega
 have HR:=Q1 (show L.take ctl f=match L.g.out f with
  | none=>if L.g.err f=0 then{L with g:=L.g.next f}else LS.close {L with g:=L.g.next f} 501 yt
  | some a=>if a.chan=0 then ctl {L with g:=L.g.next f} a else if L.st=4 then{L with g:=L.g.next f,told:=L.told++ [a]}else LS.close {L with g:=L.g.next f} 501 yt by unfold LS.take;rw[if_neg Wq];cases L.g.out f<;>rfl)
 try simp only[Act.put]
 go_quiet(fail);clear c3 c4 f6 f7 d1 d2 q1 q2;have h1:=h0.below (za (Q2 _ _) nq);have eH:=io.below (za (Q2 _ _) nq);have Ha:=za Hr nq;have Ut:∀k,U k→k≠fb:=fun k hk=>by have:=(h.uB k hk).2;omega
 clear h0 io dr Hr nR h;go_upto_region 3 with fail;generalize w0.drewN nq=wq at*;go_cut [4,5,6]from 29 to 38 (fun s4 s5 s6 wx=>∃tb cs,s4= .pointer (some ⟨tb,0,none⟩)∧Box wx tb 42 cs∧RTakeR wq B U T lb gb l b L f (some tb) cs s5 s6 wx)
 case first=>
  have CZ:∀k,U k→k<wq.heap.size:=fun k hk=>(h1.uB k hk).2
  have MO:∀k,T k→k<wq.heap.size:=h1.tB
  have B9:Below wq.heap.size wq wq.drew:=za (Q2 _ wq) 1;have h2:=h1.below B9;have Au:=eH.below B9;have dm:=eH.lt;have F8:¬F fb:=fun e=>Ut _ (h1.fu _ e) rfl
  have hdz:=B9.size;refine zt (fun W:World=>W.cell? ⟨lb,2,none⟩=some (.pointer (some ⟨gb,0,none⟩))∧Box W fb 97 #[.bool f.first,.bool f.last,.bool f.beg,.bool f.fin,.int .u8 (f.ty:Int),.int .u8 (f.track:Int),.int .u16 (f.chan:Int),.string (str f.load)]) Wj ?_;have hS:wq.drew.cell? ⟨lb,2,none⟩=some (.pointer (some ⟨gb,0,none⟩))∧Box wq.drew fb 97 #[.bool f.first,.bool f.last,.bool f.beg,.bool f.fin,.int .u8 (f.ty:Int),.int .u8 (f.track:Int),.int .u16 (f.chan:Int),.string (str f.load)]:=⟨h2.box.cell (j:=2) rfl,Au⟩;clear B6 h1 eH Au;generalize wq.drew=wd at*;refine rg_t 0 hS ?_;simp only[q9,Vy,Act.put,kx,k1,k2];refine rg_t 1 hS ?_;simp only[g_S];refine rg_t 2 hS ?_;simp only[g_S];refine ze 3 (v:=?_) rfl Wj Wj Wj hS rfl ?_ ?_;rotate_left
  ·intro wS He;have k0:=He.1;go_simp;(with_reducible rfl)
  simp only[g_S];refine ze 4 (v:=?_) rfl Wj Wj Wj hS rfl ?_ ?_;rotate_left
  ·exact Z38_
  simp only[g_S];refine xO 5 10 rfl rfl Wj rfl rfl (fun K hK=>?_) (fun K hK=>?_)
  ·go_simp;refine(eU wd F h2.ga).mono ?_;rintro e v1 hR;have rB:KeepF F wd v1:=hR.choose_spec.choose_spec.2.2.2.1;obtain⟨cs,s5,s6,rfl,sq⟩:=YB h2 hR;obtain⟨x0,x1,x2,rfl,y0,y1,y2⟩:=sq.size;have pH:=zV h2.box rB h2.fl;have rp:=zV hS.2 rB F8;clear hR eU h2;refine hK _ _ ⟨pH.cell (j:=2) rfl,rp⟩ ?_;clear hK K;have BH:=And.intro (show v1.cell? ⟨lb,2,none⟩=some (.pointer (some ⟨gb,0,none⟩))from pH.cell (j:=2) rfl) rp;refine rg_t 6 BH ?_;simp only[g_S];refine rg_t 7 BH ?_;simp only[g_S];refine rg_t 8 BH ?_;simp only[g_S];refine rg_t 9 BH ?_;simp only[g_S];obtain⟨tb,v2,gQ,fj,hz,Hc⟩:=zo v1 #[.int .u16 0,.int .u8 0,.slice none 0 0] 42;refine zj 10 rfl Wj rfl (fun K hK=>?_);go_simp;rw[←fj,←gQ];(have If:v1.heap.size≤tb:=by omega);clear fj gQ;refine hK _ _ ⟨(pH.below Hc).cell (j:=2) rfl,rp.below Hc⟩ ?_;clear hK K;(try simp only[g_S]);refine zj 11 rfl Wj rfl (fun K hK=>?_);refine zK (v:=.agg #[x0,x1,x2]) (vs:=[x0,x1,x2]) rfl rfl rfl hz rfl Wj Wz (by simp[y0,y1,y2]) #[x0,x1,x2] Wz ?_;intro v3 bX H7 fV;clear fV;have Hh:Below v1.heap.size v1 v3:=Hc.grown H7 Hc.size (fun g e=>by injection e with e;omega);have dL:=And.intro (show v3.cell? ⟨lb,2,none⟩=some (.pointer (some ⟨gb,0,none⟩))from(pH.below Hh).cell (j:=2) rfl) (rp.below Hh);refine hK _ _ dL ?_;clear hK K;(try simp only[g_S]);refine zj 12 rfl Wj rfl (fun K hK=>?_);go_simp;refine hK _ _ dL ?_;clear hK K;refine zj 13 rfl Wj rfl (fun K hK=>?_);go_simp;refine hK _ _ dL ?_;clear hK K;refine zD Wj ?_;go_wp2_with fail;go_meet
   case rel=>exact⟨tb,#[x0,x1,x2],rfl,bX,sq.done CZ MO B9 (KeepF.below (F:=fun _=>False) Hh) (fun k e=>e.elim) tb ⟨by have:=sq.choose_spec.choose_spec.choose_spec.2.2.2.1.1;omega,.inr If⟩⟩
  obtain⟨tb,v0,gQ,Gr,hz,Hr⟩:=zo wd #[.int .u16 0,.int .u8 0,.slice none 0 0] 42;go_simp;rw[←Gr,←gQ];have If:wd.heap.size≤tb:=by omega
  have LY:=hz.lt;have h3:=h2.below Hr;have dM:=B9.trans (Hr.mono B9.size);have Rx:¬F tb:=fun e=>by have:=CZ _ (h2.fu _ e);omega
  have uk:=hS.2.below Hr;have hlt:lb≠tb:=by have:=h2.box.lt;omega
  have Az:fb≠tb:=by omega
  clear Gr gQ h2;refine hK _ _ ⟨h3.box.cell (j:=2) rfl,uk⟩ ?_;clear hK K;try simp only[g_S]
  refine zj 5 rfl Wj rfl (fun K hK=>?_);go_simp;refine(eU v0 F h3.ga).mono ?_;rintro e v1 hR;have rB:KeepF F v0 v1:=hR.choose_spec.choose_spec.2.2.2.1;obtain⟨cs,s5,s6,rfl,sq⟩:=YB h3 hR;obtain⟨x0,x1,x2,rfl,y0,y1,y2⟩:=sq.size;have pH:=zV h3.box rB h3.fl;have rp:=zV uk rB F8;have cq:=zV hz rB Rx;have BH:=And.intro (show v1.cell? ⟨lb,2,none⟩=some (.pointer (some ⟨gb,0,none⟩))from pH.cell (j:=2) rfl) rp;clear hR eU h3 hz uk;refine hK _ _ BH ?_;clear hK K;try simp only[g_S]
  refine rg_t 6 BH ?_;simp only[g_S];refine rg_t 7 BH ?_;simp only[g_S];refine rg_t 8 BH ?_;simp only[g_S];refine rg_t 9 BH ?_;simp only[g_S];refine zj 11 rfl Wj rfl (fun K hK=>?_);refine zK (v:=.agg #[x0,x1,x2]) (vs:=[x0,x1,x2]) rfl rfl rfl cq rfl Wj Wz (by simp[y0,y1,y2]) #[x0,x1,x2] Wz ?_;intro v3 bX H7 fV;clear fV;have ft:KeepF (fun k=>k=tb) v1 v3:=.grown H7 (fun g e=>.inl uq);have dL:=And.intro (show v3.cell? ⟨lb,2,none⟩=some (.pointer (some ⟨gb,0,none⟩))from(zV pH ft hlt).cell (j:=2) rfl) (zV rp ft Az);refine hK _ _ dL ?_;clear hK K;try simp only[g_S]
  refine zj 12 rfl Wj rfl (fun K hK=>?_);go_simp;refine hK _ _ dL ?_;clear hK K;refine zj 13 rfl Wj rfl (fun K hK=>?_);go_simp;refine hK _ _ dL ?_;clear hK K;refine zD Wj ?_;go_wp2_with fail;go_meet
  case rel=>exact⟨tb,#[x0,x1,x2],rfl,bX,sq.done CZ MO dM ft (fun k e=>by subst e;exact⟨by omega,.inl LY⟩) tb ⟨by omega,.inl LY⟩⟩
 clear eU h1 eH Ut;obtain⟨tb,cs,rfl,fe,U',T',l',Mf,fD,hM,Gj,nW,sD,fX⟩:=hcut;have cq:=Ha.size;have hK:KeepF U w wc:=(KeepF.below Ha).trans Gj (fun g hg=>.inl hg);have wE:∀k,U' k→U k∨w.heap.size≤k:=fun k e=>(nW k e).imp id zAf
 have wG:∀k,T' k→T k∨U k∨w.heap.size≤k:=fun k e=>(sD k e).imp id (fun e=>.inr Wq)
 clear Ha Gj nW sD;obtain⟨TU,tu,tj,FU,hM⟩:=hM;have m0:=hM.box.c0;rcases fX with⟨ho,rfl,rfl,rfl⟩|⟨a,A,c,ho,rfl,rfl,rfl,hG,hA⟩
 ·have eZ:Hid (L.take ctl f=if L.g.err f=0 then{L with g:=L.g.next f}else LS.close {L with g:=L.g.next f} 501 yt):=Q1 (by rw[HR.out,ho]);clear HR ho B6;by_cases q1:L.g.err f=0
  ·have Ad:=Q1 (eZ.out.trans (if_pos q1));rw[q1];clear q1 eZ;go_wp2_with(with_reducible refine h_A ?_);go_end0;exact⟨rfl,l',fD,by rw[Ad.out];exact RStep.of hK wE wG (RStep.mk hM (.refl _ _))⟩
  have qqam:=();exact Z25_
 have eZ:Hid (L.take ctl f=if a.chan=0 then ctl {L with g:=L.g.next f} a else if L.st=4 then{L with g:=L.g.next f,told:=L.told++ [a]}else LS.close {L with g:=L.g.next f} 501 yt):=Q1 (by rw[HR.out,ho]);clear HR;unfold asV at fe;have z0:=fe.c0;by_cases q1:a.chan=0
 ·have Ad:=Q1 (eZ.out.trans (if_pos q1));have dx:=B6 a A c wc U' T' l' ho q1 ⟨_,_,_,_,hM⟩ hG;unfold asV at dx;rw[q1,show((0:Nat):Int)=0 from rfl]at z0 dx fe;have z1:=fe.c1;have z2:=fe.c2;clear q1 eZ ho B6 hM hG hA m0;go_wp2_with(with_reducible refine h_A ?_);refine dx.mono ?_;rintro e w9 ⟨rfl,bR⟩;clear dx;go_wp2_with(with_reducible refine h_A ?_);go_end0;exact⟨rfl,l',fD,by rw[Ad.out];exact RStep.of hK wE wG bR⟩
 have Ad:=Q1 (eZ.out.trans (if_neg q1));have d1:((a.chan:Int)!=0)=true:=by simp;omega
 have d2:((a.chan:Int)==0)=false:=by simp;omega
 clear eZ ho B6 q1;by_cases q2:L.st=4
 ·have P8:=Q1 (Ad.out.trans (if_pos q2));have d3:((L.st:Int)!=4)=false:=by rw[q2];rfl
  clear q2 Ad;go_upto_region 9 with fail;clear d1 d2 d3 m0 z0;obtain⟨aJ,OD⟩:tb≠lb∧blk TU≠some tb:=⟨fun e=>(Mf tb rfl).1 (e▸hM.lb),fun e=>(Mf tb rfl).1 (hM.tt tb e).1⟩;have BD:L.told.length≤1000000000:=tz;have B9:Below wc.heap.size wc wc.drew:=za (Q2 _ wc) 1;have tA:=hM.below B9;have Fz:=fe.below B9;have NS:=zi hG B9;have dQ:=hK.trans (.below (F:=U) B9) (fun g hg=>.inl hg);have Ek:=B9.size;have hTz:Hid (∀k,T' k→T k∨U k∨w.heap.size≤k):=Q1 wG;refine jd 10 (fun W:World=>W.cell? ⟨lb,6,none⟩=some (.slice TU L.told.length tu)∧Box W tb 42 #[.int .u16 (a.chan:Int),.int .u8 (a.track:Int),.slice A a.segs.length c]) Wj ?_;have hS:wc.drew.cell? ⟨lb,6,none⟩=some (.slice TU L.told.length tu)∧Box wc.drew tb 42 #[.int .u16 (a.chan:Int),.int .u8 (a.track:Int),.slice A a.segs.length c]:=⟨tA.box.cell (j:=6) rfl,Fz⟩;clear hM fe hG hK B9;generalize wc.drew=wd at*;refine yi 0 hS ?_;try simp only[g_S]
  refine yi 1 hS ?_;try simp only[g_S]
  refine yi 2 hS ?_;try simp only[g_S]
  refine yi 3 hS ?_;try simp only[g_S]
  refine yi 4 hS ?_ (hy:=by intro wS He;have k0:=He.1;go_simp;(with_reducible rfl));try simp only[g_S]
  refine yi 5 hS ?_ (hy:=by intro wS He;have k:=He.2;have q0:=k.cell (j:=0) rfl;have q1:=k.cell (j:=1) rfl;have q2:=k.cell (j:=2) rfl;go_simp;(with_reducible rfl));try simp only[g_S]
  refine yH 6 rfl Wj rfl (fun K hK=>?_);go_simp;have hBa:=(Q2 wd.heap.size wd).alloc (KL _) (.cells #[.int .u16 (a.chan:Int),.int .u8 (a.track:Int),.slice A a.segs.length c] 42);refine hK _ _ (fun _=>⟨(tA.below hBa).box.cell (j:=6) rfl,Fz.below hBa⟩) ?_;clear hK K;try simp only[g_S]
  refine yH 7 rfl Wj rfl (fun K hK=>?_);refine jR (W:=wd) Qe slTA underlying29 rfl rfl rfl rfl (⟨a,A,c⟩:TAs) rfl tA.row (show(L.told.length+1)*32≤140737488355328 by omega) BD tA.size ?_;intro A2 c2 w2 iQ Hm ig Hc;have lU:=tA.box.grown Hm (fun e=>(tA.tt lb e.symm).2.1 rfl);have LW:=Fz.grown Hm (fun e=>OD e.symm);refine hK _ _ (fun _=>⟨lU.cell (j:=6) rfl,LW⟩) ?_;clear hK K;try simp only[g_S]
  have hS:=And.intro (show w2.cell? ⟨lb,6,none⟩=some (.slice TU L.told.length tu)from lU.cell (j:=6) rfl) LW;refine yi 8 hS ?_;try simp only[g_S]
  refine yi 9 hS ?_;try simp only[g_S]
  refine yH 10 rfl Wj rfl (fun K hK=>?_);refine zK (g:=lb) (j:=6) (v:=.slice A2 (L.told.length+1) c2) (vs:=[.slice A2 (L.told.length+1) c2]) rfl rfl rfl lU rfl Wj Wz WZ #[.int .i64 (L.st:Int),.string (str b),.pointer (some ⟨gb,0,none⟩),.int .u64 (L.ch:Int),.int .u64 (L.sz:Int),.string (str L.sent),.slice A2 (L.told.length+1) c2] Wz ?_;intro w3 bX H7 fV;refine hK _ _ (fun h=>absurd rfl h) ?_;clear hK K fV;try simp only[g_S]
  refine kN Wj ?_;go_wp2_with(with_reducible refine h_A ?_);go_end0;exact⟨rfl,l',fD,by rw[P8.out];exact RStep.of dQ wE hTz.out (tA.tells a A c NS hA iQ Hm ig H7 bX)⟩
 have qqan:=();exact Z25_
theorem Kt(s:List UInt8):str s++(⟨#[65,77,81,80,1,1,0,10]⟩:ByteArray)=str (s++hdrB):=by rw[←jn];rfl
theorem Ku(ctl:LS→As→LS)(c:UInt8){l:List Fr}{L:LS}(h:RlM w B U T lb gb l b L)(hid:Idle L b)(h5:L.st≠5)(dI:b.length≤1000000)(Bm:L.sz≤1000000)(hs:L.sent.length≤1000000000)
  (IC:∀(f:Fr) (b':List UInt8) (W:World),f.wf→RlM W B U T lb gb l b' L→f=frAt (b++ [c]) (frN (b++ [c]))→Calls prog 41 #[.pointer (some ⟨lb,0,none⟩),.agg (frV f)] W fun e w'=>e= .returned (.tuple #[])∧∃l2,l2.length≤l.length+1∧RStep W B U T lb gb l2 b' (L.take ctl f) w'):
  Calls prog 28 #[.pointer (some ⟨lb,0,none⟩),.int .u8 (c.toNat:Int)] w fun e w'=>e= .returned (.tuple #[])∧∃l2,l2.length≤l.length+1∧RStep w B U T lb gb l2 (LS.one ctl (L,b) c).2 (LS.one ctl (L,b) c).1 w':=by
 obtain⟨TT,tc,th,F,hX⟩:=h;have R8:=Q1 hid;have HF:=Q1 IC;clear hid IC;have BW:=zh b;obtain⟨r,hr⟩:∃r,r=b++ [c]:=⟨_,rfl⟩
 have im:r.length=b.length+1:=by rw[hr];simp
 have HR:=Q1 hr;have iV:=Q1 im;have ny:r.length≤1000001:=by omega
 clear im;go_enter func28,ntmps28;go_upto_region 0 with fail;go_cut []from 6 (fun wx=>RlX wx B U T lb gb l r L TT tc th F∧KeepF U w wx)
 case first=>
  have hB:Below w.heap.size w w.drew:=za (Q2 _ w) 1;have h0:=hX.below hB;clear hX;refine jd 11 (fun W:World=>W.cell? ⟨lb,1,none⟩=some (.string (str b))) Wj ?_;have hS:w.drew.cell? ⟨lb,1,none⟩=some (.string (str b)):=h0.box.c1;generalize w.drew=wd at*;refine yi 0 hS ?_;try simp only[g_S]
  refine yi 1 hS ?_;try simp only[g_S]
  refine yi 2 hS ?_;try simp only[g_S]
  refine yi 3 hS ?_;try simp only[g_S]
  refine yi 4 hS ?_;try simp only[g_S]
  refine yi 5 hS ?_;try simp only[g_S]
  refine yH 6 rfl Wj rfl (fun K hK=>?_);obtain⟨ab,w3,bC,bh,hG,Ha⟩:=zo wd #[.int .u8 (c.toNat:Int)] 5;have b7:=yq (w:=wd) wd.heap.size #[.int .u8 (c.toNat:Int)] 5 1 (KL _) WX (size:=1) rfl Wq;rw[←bh,←bC]at b7;have B4:RdB w3 w3.heap.size (some ⟨ab,0,none⟩) 1 1 [c]:=b7.rd;have fF:=jm (P:=prog) underlying55 underlying9 underlying5 B4;go_simp;rw[←bh,←bC];replace hS:=(Ha.cell (p:=⟨lb,1,none⟩) h0.box.lt).trans hS;replace h0:=h0.below Ha;replace hB:=hB.trans (Ha.mono hB.size);refine hK _ _ (fun _=>hS) ?_;clear hK K b7 bh bC hG Ha B4;try simp only[g_S]
  refine yH 7 rfl Wj rfl (fun K hK=>?_);go_simp;refine hK _ _ (fun _=>hS) ?_;clear hK K fF;try simp only[g_S]
  have cj:=zh [c];have o4:(9223372036854775807<b.length+1)=False:=by simp;omega
  refine yi 8 hS ?_;try simp only[g_S]
  simp only[jn];rw[←hr];refine yi 9 hS ?_;try simp only[g_S]
  refine yi 10 hS ?_;try simp only[g_S]
  refine yH 11 rfl Wj rfl (fun K hK=>?_);refine zK (g:=lb) (j:=1) (v:=.string (str r)) (vs:=[.string (str r)]) rfl rfl rfl h0.box rfl Wj Wz WZ #[.int .i64 (L.st:Int),.string (str (r)),.pointer (some ⟨gb,0,none⟩),.int .u64 (L.ch:Int),.int .u64 (L.sz:Int),.string (str (L.sent)),.slice TT L.told.length tc] Wz ?_;intro w9 gu BP iK;refine hK _ _ (fun h=>absurd rfl h) ?_;clear hK K iK;try simp only[g_S]
  refine kN Wj ?_;go_wp2_with(with_reducible refine h_A ?_);go_meet
  case rel=>exact⟨h0.put (L':=L) BP rfl rfl gu,(KeepF.below hB).trans (.grown (F:=U) BP (fun g e=>.inl Ux)) (fun _ h=>.inl h)⟩
 obtain⟨h0,dy⟩:=hcut;clear hX hr BW;have c0:=h0.box.c0;have c1:=h0.box.c1;have Cl:=zh r;have dr:=zh L.sent;by_cases q0:L.st=0
 ·have gw:Hid (b.length<8):=Q1 (R8.out.hdr q0).1;have nI:r.length≤8:=by have:=gw.out;have:=iV.out;omega
  have lF:Hid (LS.one ctl (L,b) c=if r=hdrB.take r.length then(if r.length=8 then({L with st:=1,sent:=L.sent++hdrB++ctlB L.sz startB},[])else(L,r))else({L with st:=5,sent:=L.sent++hdrB},r)):=Q1 (by
   unfold LS.one;simp only;rw[if_pos q0,←HR.out,←iV.out];by_cases q8:r.length=8
   ·rw[if_pos q8,if_pos (show b.length=7 by have:=iV.out;omega)]
   ·rw[if_neg q8,if_neg (show ¬b.length=7 by have:=iV.out;omega)])
  have d0:((L.st:Int)==0)=true:=by rw[q0];rfl
  clear q0 R8 HF gw;obtain⟨Y,hY⟩:∃Y,Y=decide (r=hdrB.take r.length):=⟨_,rfl⟩
  have hq:((str r).toList==(str (hdrB.take r.length)).toList)=Y:=by
   rw[zn,zn,hY];by_cases e:r=hdrB.take r.length
   ·rw[decide_eq_true e,←e];simp
   rw[decide_eq_false e];simpa using e
  have HQ:=Q1 hq;have HY:=Q1 hY;clear hY hq;go_upto_region 2 with fail;go_cut [32]from 22 (fun s wx=>s= .bool (!Y)∧RlX wx B U T lb gb l r L TT tc th F∧KeepF U w wx)
  case first=>
   have B9:Below wc.heap.size wc wc.drew:=za (Q2 _ wc) 1;have h1:=h0.below B9;have dw:=dy.trans (.below (F:=U) B9) (fun g hg=>.inl hg);refine zt (fun W:World=>W.cell? ⟨lb,1,none⟩=some (.string (str r))) Wj ?_;have hS:wc.drew.cell? ⟨lb,1,none⟩=some (.string (str r)):=h1.box.c1;clear h0 dy c0 c1 B9 d0;generalize wc.drew=wd at*;refine rg_t 0 hS ?_;simp only[q9,Vy,Act.put,kx,k1,k2];refine rg_t 1 hS ?_;simp only[g_S];refine rg_t 2 hS ?_;simp only[g_S];refine ze 3 (v:=?_) rfl Wj Wj Wj hS rfl ?_ ?_;rotate_left
   ·intro wS He;have k0:=He;go_simp;(with_reducible rfl)
   simp only[g_S];refine rg_t 4 hS ?_;simp only[g_S];refine rg_t 5 hS ?_;simp only[g_S];refine rg_t 6 hS ?_;simp only[g_S];refine ze 7 (v:=?_) rfl Wj Wj Wj hS rfl ?_ ?_;rotate_left
   ·intro wS He;have k0:=He;go_simp;(with_reducible rfl)
   simp only[g_S];refine rg_t 8 hS ?_;simp only[g_S];refine ze 9 (v:=?_) rfl Wj Wj Wj hS rfl ?_ ?_;rotate_left
   ·intro wS He;rw[qM (x:=.const<| .string ⟨#[65,77,81,80,1,1,0,10]⟩) (lo:=none) (hi:=some<| .tmp 30) underlying9 (l:=hdrB) (i:=0) (j:=r.length)]<;>first|rfl|omega|exact nI|exact .inl ⟨rfl,rfl⟩|exact .inr ⟨_,_,rfl,rfl⟩
   simp only[g_S];simp only[k3];refine rg_t 10 hS ?_;simp only[g_S];refine zD Wj ?_;go_wp2_with(with_reducible refine h_A ?_);go_meet
   case rel=>exact⟨by rw[HQ.out],h1,dw⟩
  clear h0 dy c0 c1 d0 HQ;obtain⟨rfl,h0,dy⟩:=hcut
  cases Y with
  | false=>
   have HO:=Q1 (lF.out.trans (if_neg (of_decide_eq_false HY.out.symm)));clear lF HY;have c5:=h0.box.c5;go_wp2_with(with_reducible refine h_B ?_);simp only[Kt];refine zc (zm (j:=5) (v:=.string (str (L.sent++hdrB))) (vs:=[.string (str (L.sent++hdrB))]) rfl rfl rfl rfl h0.box rfl Wj Wz WZ #[.int .i64 (L.st:Int),.string (str (r)),.pointer (some ⟨gb,0,none⟩),.int .u64 (L.ch:Int),.int .u64 (L.sz:Int),.string (str (L.sent++hdrB)),.slice TT L.told.length tc] Wz ?_);intro w6 eE BP en;clear en;have h1:=h0.put (L':={L with sent:=L.sent++hdrB}) BP rfl rfl eE;have dw:=dy.trans (.grown (F:=U) BP (fun g e=>.inl Ux)) (fun _ h=>.inl h);clear h0 dy BP eE c5;go_wp2_with(with_reducible refine h_B ?_);refine zc (zm (j:=0) (v:=.int .i64 5) (vs:=[.int .i64 5]) rfl rfl rfl rfl h1.box rfl Wj Wz WZ #[.int .i64 (5),.string (str (r)),.pointer (some ⟨gb,0,none⟩),.int .u64 (L.ch:Int),.int .u64 (L.sz:Int),.string (str (L.sent++hdrB)),.slice TT L.told.length tc] Wz ?_);intro w7 eE BP en;clear en;have h2:=h1.put (L':={L with sent:=L.sent++hdrB,st:=5}) BP rfl rfl eE;have Bk:=dw.trans (.grown (F:=U) BP (fun g e=>.inl UX)) (fun _ h=>.inl h);clear h1 dw BP eE;go_wp2_with(with_reducible refine h_B ?_);refine bodyPost_ret (results_none rfl _ _ _) rfl ?_
   exact⟨rfl,l,by omega,by rw[HO.out];exact RStep.mk h2 Bk⟩
  | true=>
   have HO:=Q1 (lF.out.trans (if_pos (of_decide_eq_true HY.out.symm)));clear lF HY;have c1:=h0.box.c1;by_cases q8:r.length=8
   ·have HP:=Q1 (HO.out.trans (if_pos q8));(have d8:((r.length:Int)==8)=true:=by rw[q8];rfl);clear HO q8;go_wp2_with(with_reducible refine h_B ?_);refine zc (zm (j:=1) (v:=.string (str ([]))) (vs:=[.string (str ([]))]) rfl rfl rfl rfl h0.box rfl Wj Wz WZ #[.int .i64 (L.st:Int),.string (str ([])),.pointer (some ⟨gb,0,none⟩),.int .u64 (L.ch:Int),.int .u64 (L.sz:Int),.string (str (L.sent)),.slice TT L.told.length tc] Wz ?_);intro w6 eE BP en;clear en;have h1:=h0.put (L':=L) (b':=[]) BP rfl rfl eE;have dw:=dy.trans (.grown (F:=U) BP (fun g e=>.inl Ux)) (fun _ h=>.inl h);clear h0 dy BP eE c1 d8;go_wp2_with(with_reducible refine h_B ?_);refine zc (zm (j:=0) (v:=.int .i64 1) (vs:=[.int .i64 1]) rfl rfl rfl rfl h1.box rfl Wj Wz WZ #[.int .i64 (1),.string (str ([])),.pointer (some ⟨gb,0,none⟩),.int .u64 (L.ch:Int),.int .u64 (L.sz:Int),.string (str (L.sent)),.slice TT L.told.length tc] Wz ?_);intro w7 eE BP en;clear en;have h2:=h1.put (L':={L with st:=1}) BP rfl rfl eE;have Bk:=dw.trans (.grown (F:=U) BP (fun g e=>.inl UX)) (fun _ h=>.inl h);clear h1 dw BP eE;(have dD:∀W,Calls prog 30 #[.int .u64 0,.string ⟨#[112,111,115,116,104,111,117,115,101]⟩] W fun e w'=>e= .returned (.agg #[.bool true,.int .u64 (0),.string (⟨#[112,111,115,116,104,111,117,115,101]⟩),.int .u32 0,.string ⟨#[]⟩,.string ⟨#[]⟩,.slice none 0 0,.int .u8 0,.int .u64 0,.string ⟨#[]⟩,.slice none 0 0,.slice none 0 0])∧Below W.heap.size W w':=fun W=>jr 0 [112,111,115,116,104,111,117,115,101] W);(have fh:∀(W:World) (A:Option Addr),Rd W W.heap.size 12 A 1 1 (rowC saC [⟨true,0,[112,111,115,116,104,111,117,115,101]⟩])→RlX W B U T lb gb l [] {L with st:=1} TT tc th F→Calls prog 29 #[.pointer (some ⟨lb,0,none⟩),.int .u8 1,.slice A 1 1] W fun e w'=>e= .returned (.string (str (ctlB L.sz startB)))∧Below W.heap.size W w':=fun W A hr hx=>j3 1 _ _ zdD WJ lb L.sz A 1 1 W hr (hx.box.cell (j:=4) rfl) Bm);have bD:(ctlB L.sz startB).length≤10000:=K0 (jl _ _) WJ;(obtain⟨cb,Bs⟩:∃cb,cb=ctlB L.sz startB:=⟨_,rfl⟩);rw[←Bs]at fh bD;have ro:=Q1 Bs;clear Bs;have cj:=zh cb;have ee:=zh (L.sent++hdrB);(have fD:(L.sent++hdrB).length=L.sent.length+8:=by simp[hdrB]);(have Tq:(9223372036854775807<L.sent.length+8)=False:=by simp;omega);(have To:(9223372036854775807<L.sent.length+hdrB.length+cb.length)=False:=by rw[show hdrB.length=8 from rfl];simp;omega);clear fD;go_upto_region 8 with fail;have B9:Below w7.heap.size w7 w7.drew:=za (Q2 _ w7) 1;replace h0:=h2.below B9;have ft:=Bk.trans (.below (F:=U) B9) (fun g hg=>.inl hg);clear h2 Bk B9;refine jd 13 (fun W:World=>W.cell? ⟨lb,5,none⟩=some (.string (str L.sent))) Wj ?_;have hS:w7.drew.cell? ⟨lb,5,none⟩=some (.string (str L.sent)):=h0.box.c5;generalize w7.drew=wd at*;have hB:=Q2 wd.heap.size wd;refine yi 0 hS ?_;(try simp only[g_S]);refine yi 1 hS ?_;(try simp only[g_S]);refine yi 2 hS ?_;(try simp only[g_S]);refine yi 3 hS ?_;(try simp only[g_S]);refine yi 4 hS ?_;(try simp only[g_S]);refine yi 5 hS ?_;(try simp only[g_S]);simp only[Kt];refine yi 6 hS ?_;(try simp only[g_S]);refine yH 7 rfl Wj rfl (fun K hK=>?_);go_simp
    (with_reducible refine(dD _).mono ?_)
    rintro e w2 ⟨rfl,Ha⟩;replace hS:=(Ha.cell (p:=⟨lb,5,none⟩) h0.box.lt).trans hS;refine hK _ _ (fun _=>hS) ?_;clear hK K;replace h0:=h0.below Ha;replace hB:=hB.trans (Ha.mono hB.size);clear Ha;(try simp only[g_S]);refine yH 8 rfl Wj rfl (fun K hK=>?_);obtain⟨ab,w3,bC,bh,hG,Ha⟩:=zo w2 #[.bool true,.int .u64 (0),.string (⟨#[112,111,115,116,104,111,117,115,101]⟩),.int .u32 0,.string ⟨#[]⟩,.string ⟨#[]⟩,.slice none 0 0,.int .u8 0,.int .u64 0,.string ⟨#[]⟩,.slice none 0 0,.slice none 0 0] 80;have b7:=yq (w:=w2) (w2).heap.size #[.bool true,.int .u64 (0),.string (⟨#[112,111,115,116,104,111,117,115,101]⟩),.int .u32 0,.string ⟨#[]⟩,.string ⟨#[]⟩,.slice none 0 0,.int .u8 0,.int .u64 0,.string ⟨#[]⟩,.slice none 0 0,.slice none 0 0] 80 1 (KL _) WX (size:=12) rfl Wq;rw[←bh,←bC]at b7;have eF:Rd w3 w3.heap.size 12 (some ⟨ab,0,none⟩) 1 1 (rowC saC [⟨true,0,[112,111,115,116,104,111,117,115,101]⟩]):=b7.rd;refine Y3 (zaC rfl rfl rfl) ?_;rw[←bh,←bC];replace hS:=(Ha.cell (p:=⟨lb,5,none⟩) h0.box.lt).trans hS;refine hK _ _ (fun _=>hS) ?_;clear hK K b7 bh bC hG;replace h0:=h0.below Ha;replace hB:=hB.trans (Ha.mono hB.size);clear Ha;(try simp only[g_S]);refine yH 9 rfl Wj rfl (fun K hK=>?_);have fz:=fh w3 _ eF h0;go_simp
    (with_reducible refine(fz).mono ?_)
    rintro e w4 ⟨rfl,Ha⟩;replace hS:=(Ha.cell (p:=⟨lb,5,none⟩) h0.box.lt).trans hS;refine hK _ _ (fun _=>hS) ?_;clear hK K;replace h0:=h0.below Ha;replace hB:=hB.trans (Ha.mono hB.size);clear Ha;(try simp only[g_S]);clear fz;refine yi 10 hS ?_;(try simp only[g_S]);simp only[jn];refine yi 11 hS ?_;(try simp only[g_S]);refine yi 12 hS ?_;(try simp only[g_S]);refine yH 13 rfl Wj rfl (fun K hK=>?_);refine zK (g:=lb) (j:=5) (v:=.string (str (L.sent++hdrB++cb))) (vs:=[.string (str (L.sent++hdrB++cb))]) rfl rfl rfl h0.box rfl Wj Wz WZ #[.int .i64 (1),.string (str ([])),.pointer (some ⟨gb,0,none⟩),.int .u64 (L.ch:Int),.int .u64 (L.sz:Int),.string (str (L.sent++hdrB++cb)),.slice TT L.told.length tc] Wz ?_;intro w9 gu BP iK;refine hK _ _ (fun h=>absurd rfl h) ?_;clear hK K iK;(try simp only[g_S]);refine kN Wj ?_;go_wp2_with(with_reducible refine h_A ?_);refine bodyPost_ret (results_none rfl _ _ _) rfl ?_;exact⟨rfl,l,by omega,by rw[HP.out,←ro.out];exact RStep.mk (h0.put (L':={L with st:=1,sent:=L.sent++hdrB++cb}) BP rfl rfl gu) ((ft.trans (.below (F:=U) hB) (fun g hg=>.inl hg)).trans (.grown (F:=U) BP (fun g e=>.inl Ux)) (fun _ h=>.inl h))⟩
   have HP:=Q1 (HO.out.trans (if_neg q8));(have d8:((r.length:Int)==8)=false:=by simp;omega);clear HO q8;go_wp2_with(with_reducible refine h_A ?_);refine bodyPost_ret (results_none rfl _ _ _) rfl ?_;exact⟨rfl,l,by omega,by rw[HP.out];exact RStep.mk h0 dy⟩
 have lF:Hid (LS.one ctl (L,b) c=if zN r=false then(L.close 501 yt,r)else if 12≤r.length∧frN r≤r.length then(L.take ctl (frAt r (frN r)),r.drop (frN r))else(L,r)):=Q1 (by
  unfold LS.one;simp only
  rw[if_neg q0,←HR.out])
 have d0:((L.st:Int)==0)=false:=by simp;omega
 have iX:L.st≠0:=q0;clear q0 R8;go_wp2_with(first|(with_reducible refine zU ?_)|(with_reducible refine yl ?_)|(with_reducible refine yk ?_)|(with_reducible refine yd ?_)|(with_reducible refine ym (s:=9) (t:=55) ?_));refine zc (Q0 underlying9 underlying55 underlying5 rfl rfl rfl (l:=r) Wq ?_);intro c3 w3 cl Hh;have h1:=h0.below Hh;have dw:=dy.trans (.below (F:=U) Hh) (fun g hg=>.inl hg);have rI:=zbJ (some ⟨wc.heap.size,0,none⟩) r.length c3 r w3.heap.size w3 cl (KL _) Wq;clear h0 dy c0 c1 d0 cl Hh;go_wp2_with(with_reducible refine h_A ?_);refine rI.mono ?_;rintro e w4 ⟨rfl,Hn⟩;clear rI;have h2:=h1.below Hn;have Bk:=dw.trans (.below (F:=U) Hn) (fun g hg=>.inl hg);clear h1 dw Hn;obtain⟨fr,nP⟩:∃fr,fr=(Kh r).1:=⟨_,rfl⟩
 obtain⟨nn,dg⟩:∃nn,nn=(Kh r).2:=⟨_,rfl⟩
 rw[←nP,←dg];have HFR:=Q1 nP;have tK:=Q1 dg;clear nP dg;unfold frV;obtain⟨fb,w5,bC,bh,hG,bz⟩:=zo w4 #[.bool false,.bool false,.bool false,.bool false,.int .u8 0,.int .u8 0,.int .u16 0,.string ⟨#[]⟩] 97;go_wp2_with(with_reducible refine h_B ?_);rw[←bh,←bC];have Eu:w4.heap.size≤fb:=by omega
 clear bh bC;refine zc (zm (v:=.agg #[.bool fr.first,.bool fr.last,.bool fr.beg,.bool fr.fin,.int .u8 (fr.ty:Int),.int .u8 (fr.track:Int),.int .u16 (fr.chan:Int),.string (str fr.load)]) (vs:=[.bool fr.first,.bool fr.last,.bool fr.beg,.bool fr.fin,.int .u8 (fr.ty:Int),.int .u8 (fr.track:Int),.int .u16 (fr.chan:Int),.string (str fr.load)]) rfl rfl rfl rfl hG rfl Wj Wz WZ #[.bool fr.first,.bool fr.last,.bool fr.beg,.bool fr.fin,.int .u8 (fr.ty:Int),.int .u8 (fr.track:Int),.int .u16 (fr.chan:Int),.string (str fr.load)] Wz ?_);intro w6 cJ bm ej;clear ej;have bH:Below w4.heap.size w4 w6:=bz.grown bm bz.size Wx;have h3:=h2.below bH;have ft:=Bk.trans (.below (F:=U) bH) (fun g hg=>.inl hg);have cT:=h2.box.lt;clear h2 Bk hG bz bm bH;have c1:=h3.box.c1;by_cases qn:0<nn
 ·have Aj:Hid (nn=frN r∧fr=frAt r (frN r)∧zN r=true∧12≤r.length∧frN r≤r.length):=Q1 (by
   by_cases hc:r.length<12∨zN r=false∨r.length<frN r
   ·rw[tK.out,Zg hc]at qn;exact absurd qn Wz
   ·have w1:12≤r.length:=by omega
    have w2:zN r=true:=by
     cases hq:zN r with
     | true=>rfl
     | false=>exact absurd (.inr (.inl hq)) hc
    (have w3:frN r≤r.length:=by omega);rw[tK.out,HFR.out,Z0 w1 w2 w3]
    exact⟨rfl,rfl,w2,w1,w3⟩)
  have S9:nn≤r.length:=by have:=Aj.out;omega
  have g1:(0:Int)<(nn:Int):=by omega
  have HP:Hid (LS.one ctl (L,b) c=(L.take ctl fr,r.drop nn)):=Q1 (by
   obtain⟨e1,e2,e3,e4,e5⟩:=Aj.out
   rw[lF.out,if_neg (by rw[e3];simp),if_pos ⟨e4,e5⟩,e1,e2])
  have nR:fr.wf:=by rw[Aj.out.2.1];exact KF _ _
  have ES:=HF.out fr (r.drop nn);rw[←HR.out]at ES;have ue:=fun W hM=>ES W nR hM Aj.out.2.1
  unfold frV at ue;clear lF ES nR;go_wp2_with(first|(with_reducible refine zU ?_)|(with_reducible refine yl ?_)|(with_reducible refine yk ?_)|(with_reducible refine yd ?_)|(with_reducible refine ym (s:=9) (t:=55) ?_)|(with_reducible refine yM ?_));refine zc (Zq underlying9 rfl rfl (l:=r) rfl nn r.length (.inr ⟨_,_,rfl,rfl⟩) (.inl ⟨rfl,rfl⟩) S9 (KL _) ?_);rw[List.take_length];go_wp2_with(with_reducible refine h_B ?_);refine zc (zm (j:=1) (v:=.string (str (r.drop nn))) (vs:=[.string (str (r.drop nn))]) rfl rfl rfl rfl h3.box rfl Wj Wz WZ #[.int .i64 (L.st:Int),.string (str (r.drop nn)),.pointer (some ⟨gb,0,none⟩),.int .u64 (L.ch:Int),.int .u64 (L.sz:Int),.string (str (L.sent)),.slice TT L.told.length tc] Wz ?_);intro w7 eE BP en;clear en;have h4:=h3.put (L':=L) (b':=r.drop nn) BP rfl rfl eE;have sE:=ft.trans (.grown (F:=U) BP (fun g e=>.inl (by injection e with e;rw[←e];exact h3.lb))) (fun _ h=>.inl h);have oQ:=cJ.grown BP ux;have f0:=oQ.c0;have f1:=oQ.c1;have f2:=oQ.c2;have f3:=oQ.c3;have f4:=oQ.c4;have f5:=oQ.c5;have f6:=oQ.c6;have f7:=oQ.c7;have dx:=ue w7 ⟨_,_,_,_,h4⟩;clear h3 ft ue cJ BP eE c1 h4;go_wp2_with(with_reducible refine h_A ?_);refine dx.mono ?_;rintro e w9 ⟨rfl,l2,cR,bR⟩;clear dx;go_wp2_with(with_reducible refine h_A ?_);refine bodyPost_ret (results_none rfl _ _ _) rfl ?_;exact⟨rfl,l2,cR,by rw[HP.out];exact RStep.of sE (fun _ h=>.inl h) (fun _ h=>.inl h) bR⟩
 have BN:Hid (nn=0∧¬(zN r=true∧12≤r.length∧frN r≤r.length)):=Q1 ⟨by omega,fun hc=>by
  rw[tK.out,Z0 hc.2.1 hc.1 hc.2.2]at qn;have:=(qe hc.1 Wq).1;simp at qn
  omega⟩
 have g1:¬(0:Int)<(nn:Int):=by omega
 have HP:Hid (LS.one ctl (L,b) c=if zN r=false then(L.close 501 yt,r)else(L,r)):=Q1 (by
  rw[lF.out];by_cases hw:zN r=false
  ·rw[if_pos hw,if_pos hw]
  ·rw[if_neg hw,if_neg hw,if_neg (fun hc=>BN.out.2 ⟨by simpa using hw,hc⟩)])
 clear lF HF cJ Eu;go_wp2_with(first|(with_reducible refine zU ?_)|(with_reducible refine yl ?_)|(with_reducible refine yk ?_)|(with_reducible refine yd ?_)|(with_reducible refine ym (s:=9) (t:=55) ?_));refine zc (Q0 underlying9 underlying55 underlying5 rfl rfl rfl (l:=r) Wq ?_);intro c7 w7 Ay Bq;have h4:=h3.below Bq;have sE:=ft.trans (.below (F:=U) Bq) (fun g hg=>.inl hg);have px:=X2 (some ⟨w6.heap.size,0,none⟩) r.length c7 r w7.heap.size w7 Ay (KL _) Wq;clear h3 ft c1 Ay Bq;go_wp2_with(with_reducible refine h_A ?_);refine px.mono ?_;rintro e w8 ⟨rfl,Be⟩;clear px;have LA:=h4.below Be;have pS:=sE.trans (.below (F:=U) Be) (fun g hg=>.inl hg);clear h4 sE Be
 cases hw:zN r with
 | false=>
  have HQ:=Q1 (HP.out.trans (if_pos hw));have bZ:=yO 501 yt WJ WJ ⟨_,_,_,_,LA⟩ Bm Wq;rw[show((501:Nat):Int)=501 from rfl,show str yt=(⟨#[102,114,97,109,101]⟩:ByteArray)from rfl]at bZ;clear HP hw LA;go_wp2_with(with_reducible refine h_A ?_)
  (with_reducible refine bZ.mono ?_)
  rintro e w9 ⟨rfl,bR⟩;clear bZ;go_wp2_with(with_reducible refine h_A ?_);go_end0
  exact⟨rfl,l,by omega,by rw[HQ.out];exact RStep.of pS (fun _ h=>.inl h) (fun _ h=>.inl h) bR⟩
 | true=>
  have HQ:=Q1 (HP.out.trans (if_neg (by rw[hw];simp)));clear HP hw;go_wp2_with(with_reducible refine h_A ?_);go_end0;exact⟨rfl,l,by omega,by rw[HQ.out];exact RStep.mk LA pS⟩
def LS.closeR(L:LS)(code:Nat)(text:List UInt8):List UInt8:=if L.st=0∨L.st=5 then []else ctlB L.sz (xV code (text.take 100))
theorem Kr(L:LS)(lb:Nat)(a:As)(A:Option Addr)(n c:Nat)(w:World)(c0:w.cell? ⟨lb,0,none⟩=some (.int .i64 (L.st:Int)))(c3:w.cell? ⟨lb,3,none⟩=some (.int .u64 (L.ch:Int)))(c4:w.cell? ⟨lb,4,none⟩=some (.int .u64 (L.sz:Int)))
  (bR:L.st<256) (Bm:L.sz≤1000000) (hr:RdG w w.heap.size A n c a.segs) (hw:a.wf) (hs:∀s∈a.segs,s.load.length≤140737488351232) (hn:n≤140737488351232):
  Calls prog 20 #[.pointer (some ⟨lb,0,none⟩),.agg (asV a.chan a.track A n c)] w fun e w'=>e= .returned (.tuple #[.string (str (L.sendA a).1),.int .i64 ((L.sendA a).2:Int)])∧Below w.heap.size w w':=by
 have qq5v:=();exact Zw_
theorem QN(code:Nat)(text:List UInt8)(gX:code<65536)(lI:text.length≤100000){l:List Fr}{L:LS}(h:RlM w B U T lb gb l b L)(Bm:L.sz≤1000000):
  Calls prog 22 #[.pointer (some ⟨lb,0,none⟩),.int .u16 (code:Int),.string (str text)] w fun e w'=>e= .returned (.string (str (L.closeR code text)))∧KeepF U w w':=by
 obtain⟨TT,tc,th,F,hX⟩:=h;have c0:=hX.box.c0;have dr:=zh text;go_enter func22,ntmps22;by_cases h0:L.st=0
 ·have HR:Hid (L.closeR code text=[]):=Q1 (by unfold LS.closeR;rw[if_pos (.inl h0)]);have d0:((L.st:Int)==0)=true:=by rw[h0];rfl
  clear h0;go_wp2_with(with_reducible refine h_B ?_);refine zc (zm (v:=.int .i64 5) (vs:=[.int .i64 5]) rfl rfl rfl rfl hX.box rfl Wj Wz WZ #[.int .i64 5,.string (str b),.pointer (some ⟨gb,0,none⟩),.int .u64 (L.ch:Int),.int .u64 (L.sz:Int),.string (str L.sent),.slice TT L.told.length tc] Wz ?_);intro w6 cJ bm ej;have c1:=cJ.c0;clear ej c0 d0;go_wp2_with(with_reducible refine h_A ?_);go_ret;exact⟨by rw[HR.out];rfl,.grown bm (fun g e=>.inl (by injection e with e;rw[←e];exact hX.lb))⟩
 have d0:((L.st:Int)==0)=false:=by simp;omega
 by_cases h5:L.st=5
 ·have HR:Hid (L.closeR code text=[]):=Q1 (by unfold LS.closeR;rw[if_pos (.inr h5)]);have d5:((L.st:Int)==5)=true:=by rw[h5];rfl
  clear h0 h5;go_wp2_with(with_reducible refine h_A ?_);go_ret;exact⟨by rw[HR.out];rfl,.refl _ _⟩
 have HR:Hid (L.closeR code text=ctlB L.sz (xV code (text.take 100))):=Q1 (by unfold LS.closeR;rw[if_neg Wq]);have d5:((L.st:Int)==5)=false:=by simp;omega
 clear h0 h5;obtain⟨tx,pf⟩:∃tx,tx=text.take 100:=⟨_,rfl⟩
 have tz:tx.length≤100:=by rw[pf];exact List.length_take_le _ _
 rw[←pf]at HR;go_upto_if 22 with fail;go_cut [2]from 20 (fun s wx=>s= .string (str tx)∧w=wx)
 case first=>
  clear HR;by_cases q:100<text.length
  ·have qqhh:=();exact Z3u_
  have q1:¬(100:Int)<(text.length:Int):=by omega
  have e:tx=text:=by rw[pf];exact K1 Wq
  go_wp2_with(with_reducible refine h_A ?_);go_meet
  case rel=>exact⟨by rw[e],rfl⟩
 obtain⟨rfl,rfl⟩:=hcut;clear pf c0 d0 d5 dr;go_wp2_with(with_reducible refine h_B ?_);refine zc (zm (j:=5) (v:=.string ⟨#[]⟩) (vs:=[.string ⟨#[]⟩]) rfl rfl rfl rfl hX.box rfl Wj Wz WZ #[.int .i64 (L.st:Int),.string (str b),.pointer (some ⟨gb,0,none⟩),.int .u64 (L.ch:Int),.int .u64 (L.sz:Int),.string ⟨#[]⟩,.slice TT L.told.length tc] Wz ?_);intro w6 cJ bm ej;clear ej;have h1:=hX.put (L':={L with sent:=[]}) bm rfl rfl cJ;have dw:KeepF U w w6:=.grown bm (fun g e=>.inl (by injection e with e;rw[←e];exact hX.lb));have bZ:=yO code tx gX Wq ⟨_,_,_,_,h1⟩ Bm Wz;clear hX cJ bm h1;go_wp2_with(with_reducible refine h_A ?_)
 (with_reducible refine bZ.mono ?_)
 rintro e w9 ⟨rfl,U',T',⟨TU,tu,tj,FU,hY⟩,Bk,_,_⟩;clear bZ;have c5:=hY.box.c5;go_wp2_with(with_reducible refine h_A ?_);go_ret;exact⟨by rw[HR.out];rfl,dw.trans Bk (fun _ h=>.inl h)⟩
theorem YE(code:Nat)(text:List UInt8)(gX:code<65536)(lI:text.length≤100000){V:Nat→Prop}{n:Nat}{L:LS}(h:LkI w B V lb n b L)(he:MEnv w)(fB:0<B)(Bm:L.sz≤1000000)(Fy:L.st<256):
  Calls prog 21 #[.pointer (some ⟨lb,0,none⟩),.int .u16 (code:Int),.string (str text)] w fun e w'=>e= .returned (.string (str (L.closeR code text)))∧LkI w' B V lb n b {L with st:=5}∧KeepF V w w':=by
 obtain⟨gp,p,q,r,RA,rn,rc,F,hb,cL,d7,r7,hr,ho,ov,lc⟩:=h.ex;have cT:=h.lb;have hV:=h.v;have c0:=hb.c0;have c2:=hb.c2;have bR:=qD lb L.st gp w c0 c2;have dr:=zh text
 have gv:∀(w':World) (p' q':Value),Box w' lb 61 #[.int .u8 5,.slice RA rn rc,.pointer (some ⟨gp,0,none⟩),.int .u64 (L.ch:Int),.int .u64 (L.sz:Int),p',q',r]→KeepF (fun k=>k=lb) w w'→LkI w' B V lb n b {L with st:=5}∧KeepF V w w':=fun w' p' q' mI hk=>by
  refine⟨⟨⟨gp,p',q',r,RA,rn,rc,F,mI,cL.keepF hk (fun k e e2=>d7 (e2▸e)),d7,r7,(qu hr hk (KL _) (fun g e e2=>(lc g e).2.1 e2)).more hk.1,fun e=>absurd (show(5:Nat)=0 from e) WJ,fun _ e=>absurd rfl e,lc⟩,cT,fun k e=>⟨(hV k e).1,KS (hV k e).2 hk.1⟩⟩,hk.weak (fun g e=>.inl (e▸cT))⟩
 have sQ:=Q1 gv;clear gv cL r7 hr ho ov lc h d7;by_cases h5:L.st=5
 ·have HR:Hid (L.closeR code text=[]):=Q1 (by unfold LS.closeR;rw[if_pos (.inr h5)]);rw[h5]at bR hb;rw[show((5:Nat):Int)=5 from rfl]at bR hb;clear h5 c0 c2;go_enter func21,ntmps21;go_wp2_with(with_reducible refine h_A ?_);refine bR.mono ?_;rintro e w1 ⟨rfl,rfl⟩;go_wp2_with(with_reducible refine h_A ?_);go_ret;exact⟨by rw[HR.out];rfl,sQ.out _ _ _ hb (.refl _ _)⟩
 have g5:¬(L.st:Int)=5:=by omega
 by_cases h0:L.st=0
 ·have HR:Hid (L.closeR code text=[]):=Q1 (by unfold LS.closeR;rw[if_pos (.inl h0)]);have d0:((L.st:Int)==0)=true:=by rw[h0];rfl
  clear h0 h5;go_enter func21,ntmps21;go_wp2_with(with_reducible refine h_A ?_);refine bR.mono ?_;rintro e w1 ⟨rfl,rfl⟩;clear bR;go_wp2_with(with_reducible refine h_B ?_);refine zc (zm (v:=.int .u8 5) (vs:=[.int .u8 5]) rfl rfl rfl rfl hb rfl Wj Wz WZ #[.int .u8 5,.slice RA rn rc,.pointer (some ⟨gp,0,none⟩),.int .u64 (L.ch:Int),.int .u64 (L.sz:Int),p,q,r] Wz ?_);intro w6 cJ bm ej;clear ej c0 c2;go_wp2_with(with_reducible refine h_A ?_);go_ret;exact⟨by rw[HR.out];rfl,sQ.out _ _ _ cJ (.grown bm (fun g e=>.inl uq))⟩
 have d0:((L.st:Int)==0)=false:=by simp;omega
 have HR:Hid (L.closeR code text=ctlB L.sz (xV code (text.take 100))):=Q1 (by unfold LS.closeR;rw[if_neg Wq]);clear h0 h5;have tN:=kX (off:=5) w _ hb Wz;obtain⟨m,hm⟩:∃m,m=min text.length 100:=⟨_,rfl⟩
 have gG:min (text.length:Int) 100=(m:Int):=by omega
 have dU:m≤text.length:=by omega
 have m7:(text.take m).length≤100:=by rw[List.length_take];omega
 have HM:Hid (text.take 100=text.take m):=Q1 (by rw[hm,List.take_eq_take_iff];omega);clear hm;go_enter func21,ntmps21;go_wp2_with(with_reducible refine h_A ?_);refine bR.mono ?_;rintro e w1 ⟨rfl,rfl⟩;clear bR;go_wp2_with(with_reducible refine h_A ?_);refine tN.mono ?_;rintro e w1 ⟨rfl,bL,bM,cq⟩;clear tN c0 c2 cq;replace bL:Box w1 lb 61 #[.int .u8 (L.st:Int),.slice RA rn rc,.pointer (some ⟨gp,0,none⟩),.int .u64 (L.ch:Int),.int .u64 (L.sz:Int),.pointer none,.slice none 0 0,r]:=bL;have dw:KeepF (fun k=>k=lb) w w1:=.grown bM (fun g e=>.inl uq);have Ci:=he.onK dw (show ¬0=lb from fun e=>by have:=(hV lb cT).1;omega);have bZ:=Q3 code (text.take m) gX Wq lb L.sz w1.heap.size 0 0 _ (.pointer none) none [] w1 Ci bL rfl rfl Bm rfl (.inl rfl) rfl (Own.none_ _ _ _ _) Wz (KL _) Wq;go_wp2_with(first|(with_reducible refine zU ?_)|(with_reducible refine yl ?_)|(with_reducible refine yk ?_)|(with_reducible refine yd ?_)|(with_reducible refine ym (s:=9) (t:=55) ?_)|(with_reducible refine yM ?_));refine zc (Zq underlying9 rfl rfl (l:=text) rfl 0 m (.inl ⟨rfl,rfl⟩) (.inr ⟨_,_,rfl,rfl⟩) Wq dU ?_);rw[k3];go_wp2_with(with_reducible refine h_A ?_)
 (with_reducible refine bZ.mono ?_)
 rintro e w5 ⟨rfl,hW⟩;clear bZ;obtain⟨⟨A2,c3,cH,gA,mV,tk⟩,pS⟩:=hW;have iT:=kZ (off:=5) w5 _ cH A2 _ rfl gA;simp only[List.nil_append]at iT gA cH;go_wp2_with(with_reducible refine h_A ?_);refine iT.mono ?_;rintro e w6 ⟨rfl,El⟩;have cJ:=zV cH El mV;go_wp2_with(with_reducible refine h_A ?_);go_ret;refine⟨by rw[HR.out,HM.out];rfl,sQ.out _ _ _ cJ ((dw.trans (pS.weak (G:=fun k=>k=lb) (fun g e=>by rcases e with e|e;exact .inl e;cases e)) (fun _ h=>.inl h)).trans El (fun g e=>.inr ?_))⟩;rcases tk with e2|e2
 ·rw[e2]at e;cases e
 have:=e2 g e;have:=dw.1;omega
end Go.PH
