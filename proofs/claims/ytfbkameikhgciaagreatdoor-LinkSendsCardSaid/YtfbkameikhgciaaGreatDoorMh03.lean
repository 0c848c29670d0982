/- Parts. -/
import Derived.Test.YtfbkameikhgciaaGreatDoorCards
import Derived.Test.YtfbkameikhgciaaGreatDoorTie
import Derived.Test.YtfbkameikhgciaaGreatDoorProg
import Derived.Test.YtfbkameikhgciaaGreatDoorMh02
set_option linter.all false
set_option maxRecDepth 20000
set_option maxHeartbeats 8000000
open Go.RowKit.Below renaming refl → VB
open Go.Lib renaming hid → Q2, decodeN → kv, decodeGo → y2
open List renaming take_succ_eq_append_getElem → Vy, drop_eq_getElem_cons → Vx, getElem_mem → q6, drop_eq_nil_of_le → q9, take_of_length_le → kI, getElem_toArray → ky, getElem_cons_zero → kx, length_drop → k8, take_length → vv, take_append_drop → vz, mem_append → v0, setIfInBounds_toArray → v1, set_cons_zero → v2, set_cons_succ → v3, length_pos_iff → v4, mem_filter → v5, length_append → v9, filter_append → j8, mem_singleton → zB, count_le_length → zA, find?_append → z4, dropLast_concat_getLast → z5, eq_nil_of_length_eq_zero → z6, length_filter_le → z7, getElem?_map → z9, getElem?_eq_getElem → yB, any_cons → yA, getElem_cons_succ → y1, nodup_append → y5
open Nat renaming lt_of_lt_of_le → q5, le_trans → q7, le_refl → q8, add_zero → z8
open Go.RowKit renaming intOf → KS
open Go.World renaming block_lt_of_cell? → k9
namespace Go.PH
open Go.RowKit Go.Proofs Go.Proofs.Tryz
variable {base c g gb i j k n : Nat} {F : Nat → Prop} {A : Option Addr} {v : Value} {w w' : World}
structure MEnv(w:World):Prop where
 mx:∃m:Int,w.cell? ⟨0,0,none⟩=some (.int .i64 m)
theorem MEnv.lt(h:MEnv w):0<w.heap.size:=by
 obtain⟨m,hm⟩:=h.mx;exact k9 w _ hm
theorem MEnv.on(h:MEnv w)(hB:Below w.heap.size w w'):MEnv w' where
 mx:=by
  have hl:=h.lt;obtain⟨m,hm⟩:=h.mx;exact⟨m,(hB.cell (p:=⟨0,0,none⟩) hl).trans hm⟩
theorem Zw(c:Nat)(w:World):Calls prog 111 #[.int .u8 (c:Int)] w fun e w'=>e= .returned (.tuple #[.string (str (xi c)),.string (str (xQ c))])∧w=w':=by
 by_cases h:c=1∨c=2∨c=3∨c=4∨c=5∨c=6∨c=8
 ·rcases h with rfl|rfl|rfl|rfl|rfl|rfl|rfl
  all_goals
   go_enter func111,ntmps111;go_wp2_with(with_reducible refine h_A ?_);go_ret2;exact⟨rfl,rfl⟩
 have h1:xQ c=[]∧xi c=[]:=by
  constructor
  ·unfold xQ;split;all_goals first|rfl|(exfalso;apply h;simp)
  unfold xi;split;all_goals first|rfl|(exfalso;apply h;simp)
 have e1:((c:Int)==1)=false:=by simp;omega
 have e2:((c:Int)==2)=false:=by simp;omega
 have e3:((c:Int)==3)=false:=by simp;omega
 have e4:((c:Int)==4)=false:=by simp;omega
 have e5:((c:Int)==5)=false:=by simp;omega
 have e6:((c:Int)==6)=false:=by simp;omega
 have e8:((c:Int)==8)=false:=by simp;omega
 rw[h1.1,h1.2];clear h h1;go_enter func111,ntmps111;go_wp2_with(with_reducible refine h_A ?_);go_ret2;exact⟨rfl,rfl⟩
theorem KN(n c:Nat):IntKind.u8.wrap (IntKind.u8.wrap (IntKind.u8.wrap (10*(n:Int))+(c:Int))-48)=(((10*n+c+208) % 256:Nat):Int):=by
 simp only[IntKind.wrap_u8];omega
theorem zaT(l:List UInt8)(w:World)(hl:l.length≤1000):Calls prog 120 #[.string (str l)] w fun e w'=>e= .returned (.int .u8 (jD l:Int))∧w=w':=by
 have dr:=zh l;go_enter func120,ntmps120;go_wp2_with(with_reducible refine h_A ?_);go_loop [3,7] (fun s3 s7=>∃k:Nat,k≤l.length∧s7= .int .i64 k∧s3= .int .u8 ((jD (l.take k):Nat):Int)) (fun _ s7=>l.length-(KS s7).toNat)
 case atStart=>exact⟨0,by omega,rfl,rfl⟩
 obtain⟨k,hk,rfl,rfl⟩:=hrel;by_cases hlt:k<l.length
 ·have gf:(k:Int)<(l.length:Int):=by omega
  have bR:=Q2 (KN (jD (l.take k)) l[k].toNat);have tF:Hid (jD (l.take (k+1))=(10*jD (l.take k)+l[k].toNat+208) % 256):=Q2 (by rw[Vy hlt,JO]);have I8:=zaV (l.take k);go_wp2_with(with_reducible refine h_A ?_);refine⟨⟨k+1,by omega,by go_num,?_⟩,by simp[KS];omega⟩;rw[tF.out];show Value.int IntKind.u8 (((10*((jD (l.take k):Nat):Int)+((l[k].toNat:Nat):Int)) % 256-48) % 256)=_
  congr 1;omega
 obtain rfl:k=l.length:=by omega
 rw[vv];go_wp2_with(with_reducible refine h_A ?_);go_ret;exact⟨rfl,rfl⟩
def zck(r:Option MRow):List UInt8:=(r.map (·.word)).getD []
def yv(r:Option MRow):List UInt8:=(r.map (·.kinds)).getD []
def zaU(w:World)(r:Option MRow)(e:Ending)(w':World):Prop:=e= .returned (.tuple #[.string (str (zck r)),.string (str (yv r)),.bool r.isSome])∧Below w.heap.size w w'
theorem jW{P:List (List UInt8)}(hj:j<P.length)(h:qN k (P.take j)=none):qN k (P.take (j+1))=qN k [P[j]]:=by
 rw[Vy hj,Xn,h]
theorem KO{P:List (List UInt8)}(hj:j<P.length)(h:qN k (P.take j)=none){r:MRow}(hr:qN k [P[j]]=some r):qN k P=some r:=by
 have e:P=P.take (j+1)++P.drop (j+1):=(vz _ _).symm;rw[e,Xn,jW hj h,hr]
theorem JL{p a b c:List UInt8}(h:xF 32 p=[a,b,c]):qN k [p]=if jD a=k then some ⟨jD a,b,c⟩else none:=by
 unfold qN Zx;rw[h];simp only;split<;>rfl
theorem JM{p:List UInt8}(h:(xF 32 p).length≠3):qN k [p]=none:=by
 unfold qN Zx;split
 ·rename_i h1
  split at h1
  ·rename_i h2;rw[h2]at h;exact absurd rfl h
  cases h1
 rfl
theorem len3{α:Type}{l:List α}(h:l.length=3):∃a b c,l=[a,b,c]:=by
 match l,h with
 | [a,b,c],_=>exact⟨a,b,c,rfl⟩
theorem Xk(d:UInt8)(l:List UInt8)(w:World)(he:MEnv w)(hl:l.length≤100000):
  Calls prog 119 #[.string (str l),.string (sepS d)] w fun e w'=>e= .returned (.slice (some ⟨w.heap.size,0,none⟩) (xF d l).length (xF d l).length)∧w'=w.alloc (.cells ((xF d l).map (fun p=>Value.string (str p))).toArray 9):=by
 obtain⟨m,hm⟩:=he.mx;have tq:=Tryz.strings_Split (str l) (sepS d) m w (by rw[zh];omega) hm (by show 1≤1;omega);rw[Xm]at tq;have te:Lib.countB (str l) (sepS d)+1=(xF d l).length:=by rw[vB,YO]
 rw[te]at tq;exact tq
theorem KQ{t:TypeId}{P:List (List UInt8)}(hb:Box w g t (P.map (fun p=>Value.string (str p))).toArray)(hj:j<P.length):w.cell? ⟨g,j,none⟩=some (.string (str P[j])):=by
 refine hb.cell ?_;simp[hj]
theorem Q6(c k:Nat)(w:World)(he:MEnv w):
  Calls prog 101 #[.int .u8 (c:Int),.int .u8 (k:Int)] w (zaU w (yp c k)):=by
 obtain⟨RS,sY⟩:∃RS,RS=yp c k:=⟨_,rfl⟩
 rw[←sY];have wM:Hid (RS=qN k (xF 59 (xQ c))):=Q2 (by rw[sY,KR]);obtain⟨P,hP⟩:∃P,P=xF 59 (xQ c):=⟨_,rfl⟩
 have ax:∀p∈P,p.length≤200:=by
  intro p hp;rw[hP]at hp;have h1:=YP 59 (xQ c) p hp;have h2:=(jE c).1;omega
 have hPn:P.length≤201:=by
  have h1:P.length=(xQ c).count 59+1:=by rw[hP,YO]
  have h2:=(jE c).1;have h3:(xQ c).count 59≤(xQ c).length:=zA;omega
 have bD:=Zw c w;have tq:=Xk 59 (xQ c) w he (by have:=(jE c).1;omega);have oW:=he;rw[←hP]at tq wM;clear sY hP he;have Hr:=(VB w.heap.size w).alloc (q8 _) (.cells (P.map (fun p=>Value.string (str p))).toArray 9);have dd:=Box.new w (P.map (fun p=>Value.string (str p))).toArray 9;go_enter func101,ntmps101;go_wp2_with(with_reducible refine h_A ?_);refine bD.mono ?_;rintro e w1 ⟨rfl,rfl⟩;go_wp2_with(with_reducible refine h_A ?_);refine tq.mono ?_;rintro e w1 ⟨rfl,rfl⟩;clear bD tq;obtain⟨g0,pc⟩:∃g,g=w.heap.size:=⟨_,rfl⟩
 rw[←pc]at dd;have DJ:g0≤w.heap.size:=by omega
 rw[←pc];clear pc;generalize(w.alloc (.cells (P.map (fun p=>Value.string (str p))).toArray 9))=w1 at*;go_wp2_with(with_reducible refine h_A ?_);go_loopw [20] (fun s wr=>∃(j:Nat),j≤P.length∧s= .int .i64 j∧Hid (qN k (P.take j)=none)∧Box wr g0 9 (P.map (fun p=>Value.string (str p))).toArray∧Below w.heap.size w wr) (fun s _=>P.length-(KS s).toNat)
 case atStart=>exact⟨0,by omega,rfl,Q2 rfl,dd,Hr⟩
 obtain⟨j,hj,rfl,HN,hb,hB⟩:=hrel;clear dd Hr;by_cases hlt:j<P.length
 ·have aq:(j:Int)<(P.length:Int):=by omega
  have hp:=ax P[j] (q6 hlt);have ik:=KQ hb hlt;have HS:=Q2 (jW hlt HN.out);have HH:Hid (∀r,qN k [P[j]]=some r→RS=some r):=Q2 (fun r hr=>by rw[wM.out];exact KO hlt HN.out hr);generalize P[j]=p at*;have tq:=Xk 32 p wr (oW.on hB) Wq;have Hc:=hB.alloc hB.size (.cells ((xF 32 p).map (fun p=>Value.string (str p))).toArray 9);have bE:=hb.alloc (.cells ((xF 32 p).map (fun p=>Value.string (str p))).toArray 9);have mw:=Box.new wr ((xF 32 p).map (fun p=>Value.string (str p))).toArray 9;go_wp2_with(with_reducible refine h_A ?_);refine tq.mono ?_;rintro e w2 ⟨rfl,rfl⟩;clear tq ik hb hB;obtain⟨g1,bM⟩:∃g,g=wr.heap.size:=⟨_,rfl⟩
  rw[←bM]at mw ⊢;clear bM;have PJ:Hid ((xF 32 p).length≠3→qN k [p]=none):=Q2 (fun h=>JM h);have rD:Hid (∀a b c,xF 32 p=[a,b,c]→qN k [p]=if jD a=k then some ⟨jD a,b,c⟩else none):=Q2 (fun a b c h=>JL h);have bD:∀q∈xF 32 p,q.length≤1000:=fun q hq=>by have:=YP 32 p q hq;omega
  have Pz:(xF 32 p).length≤1000:=by
   have h1:(xF 32 p).length=p.count 32+1:=YO p;have h3:p.count 32≤p.length:=zA;omega
  generalize xF 32 p=Q at*;generalize(wr.alloc (.cells (Q.map (fun p=>Value.string (str p))).toArray 9))=w2 at*;by_cases h3:Q.length=3
  ·obtain⟨qa,qb,qc,rfl⟩:=len3 h3;have k0:=mw.c0;have k1:=mw.c1;have k2:=mw.c2;have NL:=bD qa Wz;have HQ:=Q2 (rD.out _ _ _ rfl);clear PJ rD bD h3 mw;have te:=zaT qa w2 NL;by_cases hk:jD qa=k
   ·have HR:Hid (RS=some ⟨jD qa,qb,qc⟩):=Q2 (HH.out _ (by rw[HQ.out,if_pos hk]));subst hk;clear HH HQ HS HN;go_wp2_with(with_reducible refine h_A ?_);refine te.mono ?_;rintro e w3 ⟨rfl,rfl⟩;clear te;go_wp2_with(with_reducible refine h_A ?_);go_quiet(fail);go_wp2_with(with_reducible refine h_A ?_);go_ret3;rw[HR.out];exact⟨rfl,za Hc _⟩
   have nM:Hid (qN k (P.take (j+1))=none):=Q2 (by rw[HS.out,HQ.out,if_neg hk]);(have hk':((jD qa:Int)==(k:Int))=false:=by simp;omega);clear HH HQ HS HN hk;go_wp2_with(with_reducible refine h_A ?_);refine te.mono ?_;rintro e w3 ⟨rfl,rfl⟩;clear te;exact Z5f_
  have nM:Hid (qN k (P.take (j+1))=none):=Q2 (by rw[HS.out,PJ.out h3]);have h3':((Q.length:Int)==3)=false:=by simp;omega
  clear HH HS HN PJ rD bD mw h3;exact Z5f_
 obtain rfl:j=P.length:=by omega
 have HR:Hid (RS=none):=Q2 (by rw[wM.out];have:=HN.out;rwa[vv]at this);clear HN;go_wp2_with(with_reducible refine h_A ?_);go_ret3;rw[HR.out];exact⟨rfl,hB⟩
theorem Zy(c k:Nat)(w:World)(he:MEnv w):
  Calls prog 69 #[.int .u8 (c:Int),.int .u8 (k:Int)] w fun e w'=>e= .returned (.tuple #[.string (str (yv (yp c k))),.bool (yp c k).isSome])∧Below w.heap.size w w':=by
 have hf:=Q6 c k w he;generalize yp c k=r at*;unfold zaU at hf;generalize yv r=kd at*;generalize zck r=wd at*;generalize r.isSome=is at*;go_enter func69,ntmps69;go_wp2_with(with_reducible refine h_A ?_);refine hf.mono ?_;rintro e w1 ⟨rfl,hB⟩;go_wp2_with(with_reducible refine h_A ?_);go_ret2;exact⟨rfl,hB⟩
end Go.PH
section
namespace Go.Proofs.YtfbkameikhgciaaGreatDoor
open Go.PH Go.RowKit Go.ChangeShapes Go.WideShapes Go.ChangeAt
theorem own:ownKnob Tryz.prog.godebug=none:=by kernel_rfl
theorem laidOut:laidOutB Tryz.prog=true:=by kernel_rfl
def utfList:List (String×DataW Unit):=[("unicode/utf8.acceptRanges",Rows.laid_unicode_utf8_acceptRanges),("unicode/utf8.first",Rows.laid_unicode_utf8_first)]
theorem env{W:World}(h:laidMetH Tryz.prog utfList W)(hsh:W.ShapedOpen Tryz.prog):MEnv W:=⟨Tryz.laysM146.s1_3 W hsh⟩
def u8s(l:List Nat):Array Value:=(l.map fun(n:Nat)=>Value.int .u8 (n:Int)).toArray
def accN:List Nat:=[128,191,160,191,128,159,144,191,128,143,0,0,0,0,0,0,0,0,0,0,0,0,0,0,0,0,0,0,0,0,0,0]
def withCells(h:Array Obj)(g:Nat)(cs:Array Value):Array Obj:=h.modify g fun
 | .cells _ t frozen=>.cells cs t frozen
 | o=>o
noncomputable def wit(os:Os):World:=
 let w0:=World.holding Tryz.prog os ⟨#[],#[],[]⟩
 {w0 with heap:=withCells (withCells w0.heap 2 (u8s accN)) 1 (u8s Go.Pinned.utf8FirstZ)}
theorem utf_met(os:Os)(args:Array Value):laidMet Tryz.prog utfList ((wit os).forCall (fun _ _=>0) ⟨#[],args,[]⟩).memory:=
 laidMet_of_run' 8 (by kernel_rfl) (by kernel_rfl)
end Go.Proofs.YtfbkameikhgciaaGreatDoor
end
namespace Go.PH
open Go.RowKit Go.Proofs Go.Proofs.Tryz
variable {base c g gb i j k n : Nat} {F : Nat → Prop} {A : Option Addr} {v : Value} {w w' : World}
def qO(c k:Nat):List UInt8:=(YQ c k).getD []
theorem Vt(c k:Nat)(w:World)(he:MEnv w):
  Calls prog 88 #[.int .u8 (c:Int),.int .u8 (k:Int)] w fun e w'=>e= .returned (.tuple #[.string (str (qO c k)),.bool (YQ c k).isSome])∧Below w.heap.size w w':=by
 have bD:=Zw c w;have hf:=Q6 c k w he;have BD:(xi c).length≤20:=(jE c).2
 cases hr:yp c k with
 | none=>
  have qqb0:=()
  exact Z28_
 | some r=>
  exact Z28_
def rrC(r:RRow):List Value:=[.int .u8 (r.cls:Int),.int .u8 (r.code:Int),.string (str r.name),.string (str r.kinds)]
def rrV(r:RRow):Array Value:=#[.int .u8 (r.cls:Int),.int .u8 (r.code:Int),.string (str r.name),.string (str r.kinds)]
def rr0:RRow:=⟨0,0,[],[]⟩
theorem rrShape:RecShape rrC 4 where
 len _:=rfl
 one a u hu:=by simp[rrC]at hu;rcases hu with rfl|rfl|rfl|rfl<;>rfl
 pos:=by omega
def qJ:Array Value:=(rowC rrC refTab).toArray
theorem zbA{t:TypeId}(hb:Box w g t qJ)(hj:j<refTab.length):∀i u,(rrC refTab[j])[i]?=some u→w.cell? ⟨g,j*4+i,none⟩=some u:=fun i u hu=>by
 refine hb.cell ?_;have hi:i<4:=by have:=(List.getElem?_eq_some_iff.1 hu).1;rwa[rrShape.len]at this
 have:=YJ rrShape refTab j hj i hi;rw[hu]at this;simpa[qJ]using this
theorem QG{P:Program}{o:Oper}{a:Act}{K:Act→World→Prop}{Q:Exit→Act→World→Prop}(h:(execOp a.eval o).run P w= .ok (.value v) w')(hk:K (a.put o.dst v) w'):o.wp P a w K Q:=by
 unfold Oper.wp;simp only[h];exact hk
set_option maxRecDepth 100000 in
theorem V0(w:World):Calls prog 92 #[] w fun e w'=>e= .returned (.slice (some ⟨w.heap.size,0,none⟩) 44 44)∧w'=w.alloc (.cells qJ 127):=by
 have ht:Hid (qJ=(rowC rrC refTab).toArray):=Q2 rfl;go_enter func92,ntmps92;go_wp2_with(with_reducible refine h_A ?_)
 rename_i Q1 K1 h1 K0 h0
 refine QG (v:=.slice (some ⟨w.heap.size,0,none⟩) 44 44) (w':=w.alloc (.cells qJ 127)) Wj ?_;refine h0 _ _ ?_;clear h0 K0;go_wp2_with(with_reducible refine h_A ?_);go_ret;exact⟨rfl,rfl⟩
theorem vY{a b:Int}{g h:ByteArray}:∀u∈ [Value.int .u8 a,.int .u8 b,.string g,.string h],u.oneCell'=true:=by
 intro u hu;simp at hu;rcases hu with rfl|rfl|rfl|rfl<;>rfl
def VY(w:World)(r:Option RRow)(e:Ending)(w':World):Prop:=e= .returned (.tuple #[.agg (rrV (r.getD rr0)),.bool r.isSome])∧Below w.heap.size w w'
theorem VZ{α:Type}{p:α→Bool}{l:List α}(hj:j<l.length)(h:(l.take j).find? p=none):(p l[j]=true→l.find? p=some l[j])∧(p l[j]=false→(l.take (j+1)).find? p=none):=by
 constructor
 ·intro hp;have e:l.find? p=(l.take j++l.drop j).find? p:=by rw[vz]
  rw[e,z4,h,Option.none_or,Vx hj,List.find?_cons,hp]
 intro hp;rw[Vy hj,z4,h];simp[hp]
theorem XT(c k:Nat)(w:World):Calls prog 59 #[.int .u8 (c:Int),.int .u8 (k:Int)] w (VY w (kG c k)):=by
 obtain⟨RS,sY⟩:∃RS,RS=kG c k:=⟨_,rfl⟩
 rw[←sY];have wM:Hid (RS=refTab.find? fun r=>decide (r.cls=c∧r.code=k)):=Q2 sY;clear sY;have Hr:=((VB w.heap.size w).alloc (q8 _) (.cells (rrV rr0) 127)).alloc Wz (.cells qJ 127);have td:=(Box.new w (rrV rr0) 127).alloc (.cells qJ 127);have dd:=Box.new (w.alloc (.cells (rrV rr0) 127)) qJ 127;have gQ:=V0 (w.alloc (.cells (rrV rr0) 127));have BW:(w.alloc (.cells (rrV rr0) 127)).heap.size=w.heap.size+1:=by simp
 have IB:refTab.length=44:=by decide
 have HL:=Q2 IB;clear IB;rw[BW]at dd gQ;unfold rrV rr0 at td gQ dd Hr;simp only at td gQ dd Hr;clear BW;go_enter func59,ntmps59;go_wp2_with(with_reducible refine h_A ?_);refine gQ.mono ?_;rintro e w1 ⟨rfl,rfl⟩;clear gQ;generalize((w.alloc (.cells #[.int .u8 ((0:Nat):Int),.int .u8 ((0:Nat):Int),.string (str []),.string (str [])] 127)).alloc (.cells qJ 127))=w1 at*;go_wp2_with(with_reducible refine h_A ?_);go_loopw [7] (fun s wr=>∃(j:Nat),j≤44∧s= .int .i64 j∧Hid ((refTab.take j).find? (fun r=>decide (r.cls=c∧r.code=k))=none)∧Box wr w.heap.size 127 #[.int .u8 ((0:Nat):Int),.int .u8 ((0:Nat):Int),.string (str []),.string (str [])]∧Box wr (w.heap.size+1) 127 qJ∧Below w.heap.size w wr) (fun s _=>44-(KS s).toNat)
 case atStart=>exact⟨0,by omega,rfl,Q2 rfl,td,dd,Hr⟩
 obtain⟨j,hj,rfl,HN,hz,hb,hB⟩:=hrel;clear td dd Hr;by_cases hlt:j<44
 ·have I1:j<refTab.length:=by rw[HL.out];exact hlt
  have aq:(j:Int)<44:=by omega
  have hc:=zbA hb I1;have HT:=Q2 (VZ I1 HN.out);have cZ:=KU _ (q6 I1);generalize refTab[j]=r at*;obtain⟨rc,rk,rn,rd⟩:=r;have k0:wr.cell? ⟨w.heap.size+1,j*4,none⟩=_:=hc 0 _ rfl;have k1:=hc 1 _ rfl;have k2:=hc 2 _ rfl;have k3:=hc 3 _ rfl;clear hc cZ;by_cases h1:rc=c
  ·subst h1;by_cases h2:rk=k
   ·subst h2;have HR:Hid (RS=some ⟨rc,rk,rn,rd⟩):=Q2 (by rw[wM.out];exact HT.out.1 Wz);clear HT HN wM;go_wp2_with(with_reducible refine h_B ?_);refine zc (zm (v:=.agg #[.int .u8 (rc:Int),.int .u8 (rk:Int),.string (str rn),.string (str rd)]) (vs:=[.int .u8 (rc:Int),.int .u8 (rk:Int),.string (str rn),.string (str rd)]) rfl rfl rfl rfl hz rfl Wj Wz vY #[.int .u8 (rc:Int),.int .u8 (rk:Int),.string (str rn),.string (str rd)] Wz ?_);intro w5 fY bc _;have bz:=hB.grown bc hB.size Wx;clear k0 k1 k2 k3 hz hb hB;exact Z54_
   have nM:Hid ((refTab.take (j+1)).find? (fun r=>decide (r.cls=rc∧r.code=k))=none):=Q2 (HT.out.2 (by simp[h2]));(have e2:((rk:Int)==(k:Int))=false:=by simp;omega);clear HT HN h2;exact Z5a_
  have nM:Hid ((refTab.take (j+1)).find? (fun r=>decide (r.cls=c∧r.code=k))=none):=Q2 (HT.out.2 (by simp[h1]));have e1:((rc:Int)==(c:Int))=false:=by simp;omega
  clear HT HN h1;exact Z5a_
 obtain rfl:j=44:=by omega
 have HR:Hid (RS=none):=Q2 (by
  rw[wM.out];have:=HN.out
  rwa[kI (by rw[HL.out];omega)]at this)
 clear HN wM;go_wp2_with(with_reducible refine h_B ?_);refine zc (zm (v:=.agg #[.int .u8 0,.int .u8 0,.string ⟨#[]⟩,.string ⟨#[]⟩]) (vs:=[.int .u8 0,.int .u8 0,.string ⟨#[]⟩,.string ⟨#[]⟩]) rfl rfl rfl rfl hz rfl Wj Wz vY #[.int .u8 0,.int .u8 0,.string ⟨#[]⟩,.string ⟨#[]⟩] Wz ?_);intro w5 fY bc _;have bz:=hB.grown bc hB.size Wx;clear hz hb hB;exact Z54_
structure RgS(w wx:World)(F:Nat→Prop)(gb fb rb nb:Nat)(A2:Option Addr)(c2:Nat)(L:List Fr)(f:Fr)(A3:Option Addr)(c3:Nat)(l3:List Fr):Prop where
 bg:Box wx gb 67 #[.slice A3 l3.length c3,.bool false]
 bf:Box wx fb 97 #[.bool f.first,.bool f.last,.bool f.beg,.bool f.fin,.int .u8 (f.ty:Int),.int .u8 (f.track:Int),.int .u16 (f.chan:Int),.string (str f.load)]
 br:Box wx rb 42 #[.int .u16 0,.int .u8 0,.slice none 0 0]
 bn:Box wx nb 42 #[.int .u16 0,.int .u8 0,.slice none 0 0]
 own:OwnF wx 0 A3 l3.length c3 l3
 ol:OwnF wx w.heap.size A2 L.length c2 L
 kp:KeepF F w wx
 bl:∀k,blk A3=some k→(F k∨w.heap.size≤k)∧k≠gb∧k≠fb∧k≠rb∧k≠nb∧blk A2≠some k
theorem X3{g:GS}{f:Fr}{l:List Fr}(hlt:∀k,F k→k<w.heap.size)(hb:Box w' gb 67 #[.slice A 0 c,.bool true])(hO:OwnF w' 0 A 0 c [])(hA:∀k,blk A=some k→F k∧k≠gb)(hF:F gb)(hK:KeepF F w w')(he:g.err f=k)(hk:k≠0):
  YC w F gb g l f (.returned (.tuple #[.agg asZ,.bool false,.int .i64 (k:Int)])) w':=by
 refine⟨F,[],fun _ h=>.inl h,⟨⟨A,c,?_,hO,hA⟩,hF,fun k hk=>q5 (hlt k hk) hK.1,fun c t=>?_,fun f h=>by cases h⟩,by simp,hK,.inl ⟨GS.out_err Wq,by rw[he]⟩⟩
 ·rw[GS.next_err Wq];exact hb
 rw[GS.next_err Wq];rfl
theorem zcP{g:GS}{l:List Fr}(h:RGa w F gb g l)(hi:g.Inv)(hd:g.dead=true):l=[]:=by
 rcases l with _|⟨f,l⟩
 ·rfl
 have h1:=h.op f.chan f.track;rw[hi.deadE hd]at h1;have:f∈(f::l).filter (onT f.chan f.track):=v5.2 ⟨by simp,by simp[onT]⟩;rw[←h1]at this
 cases this
theorem Kk{l:List Fr}(h:∀f,l.head?=some f→f.beg=true)(hne:l≠ []):zZ l≠ []:=by
 have qqc8:=();exact Z2o_
theorem zaf{l:List Fr}{f:Fr}(h:l=[]→f.beg=true)(h1:∀x,l.head?=some x→x.beg=true):∃(L0:List Sg) (s0:Sg),(if f.beg then zZ l++ [⟨f.ty,[]⟩]else zZ l)=L0++ [s0]∧zZ (l++ [f])=L0++ [⟨s0.ty,s0.load++f.load⟩]:=by
 rw[jw]
 cases hb:f.beg with
 | true=>exact⟨zZ l,⟨f.ty,[]⟩,by simp,by rw[JE _ _ hb];simp⟩
 | false=>
  have hne:zZ l≠ []:=Kk h1 (fun e=>by rw[h e]at hb;cases hb);obtain⟨L0,s0,e⟩:∃L0 s0,zZ l=L0++ [s0]:=⟨_,_,(z5 hne).symm⟩
  exact⟨L0,s0,by simp[e],by rw[e,Ky _ _ _ hb]⟩
theorem X4:∀(n:Nat) (l:List Fr),l.length=n→(zZ l).length≤n
 | 0,l,h=>by
  obtain rfl:=z6 h
  exact q8 0
 | n+1,l,h=>by
  obtain⟨s,c,rfl⟩:∃t c,l=t++ [c]:=⟨l.dropLast,l.getLast (by intro e;rw[e]at h;cases h),(z5 _).symm⟩
  have ih:=X4 n s Nz;rw[jw,xE,jP];split
  ·simp only[v9,List.length_singleton];omega
  omega
theorem zcQ{LL:List Fr}(hg:∀x,LL.head?=some x→x.beg=true)(hk:k<LL.length):∃(L0:List Sg) (s0:Sg),(if LL[k].beg then zZ (LL.take k)++ [⟨LL[k].ty,[]⟩]else zZ (LL.take k))=L0++ [s0]∧zZ (LL.take (k+1))=L0++ [⟨s0.ty,s0.load++LL[k].load⟩]:=by
 obtain⟨L0,s0,h1,h2⟩:=zaf (l:=LL.take k) (f:=LL[k]) (fun h=>by
  cases LL with
  | nil=>cases hk
  | cons x r=>
   cases k with
   | zero=>exact hg x rfl
   | succ k=>cases h) (fun y hy=>by
  cases LL with
  | nil=>cases hk
  | cons x r=>
   cases k with
   | zero=>cases hy
   | succ k=>exact hg y hy)
 exact⟨L0,s0,h1,by rw[Vy hk];exact h2⟩
theorem Kl{LL:List Fr}{L0:List Sg}{t:Nat}{s x:List UInt8}(hl:zI LL≤16384)(h:zZ (LL.take (k+1))=L0++ [⟨t,s++x⟩]):s.length+x.length≤16384∧L0.length≤k:=by
 have h1:=vu (LL.take (k+1));have h2:=qz (LL.take (k+1)) (LL.drop (k+1));rw[vz]at h2;have h3:=X4 _ (LL.take (k+1)) rfl;rw[h,jO]at h1;rw[h]at h3;simp[yK]at h1;simp at h3;exact⟨by omega,by omega⟩
theorem zag{g:GS}{f:Fr}(hi:g.Inv)(h:g.err f=0):Goes (g.op f.chan f.track++ [f]):=by
 rcases g.err_cases f with⟨e,_⟩|⟨_,⟨e,_⟩|⟨bJ,⟨e,_⟩|⟨ie,⟨e,_⟩|⟨e,hl⟩⟩⟩⟩
 ·omega
 ·omega
 ·omega
 ·omega
 exact(hi.goes f.chan f.track).snoc bJ ie hl
theorem zcR{g:GS}{l:List Fr}{f:Fr}(cS:∀c t,g.op c t=l.filter (onT c t))(c t:Nat):(g.upd f.chan f.track (g.op f.chan f.track++ [f])).op c t=(l++ [f]).filter (onT c t):=by
 show(if c=f.chan∧t=f.track then g.op f.chan f.track++ [f]else g.op c t)=_
 rw[j8];by_cases h:c=f.chan∧t=f.track
 ·rw[if_pos h,h.1,h.2,cS];congr 1;simp[onT]
 rw[if_neg h,cS]
 have:onT c t f=false:=by
  exact Z5k_
 simp[this]
theorem zbK{w2 wz:World}{fb rb nb:Nat}{A2 A3:Option Addr}{c2 c3:Nat}{L l:List Fr}{f:Fr}{g:GS}(hR:RgS w w2 F gb fb rb nb A2 c2 L f A3 c3 (l++ [f]))(hlt:∀k,F k→k<w.heap.size)(hF:F gb)(da:w.heap.size≤rb)(BP:w2.grownBy wz (some rb))
  (he:g.err f=0) (hd:g.dead=false) (cS:∀c t,g.op c t=l.filter (onT c t)) (gh:∀x∈l,x.wf∧x.load.length≤1000000) (hf:f.wf∧f.load.length≤1000000) (hl:(f.fin&&f.last)=false):
  YC w F gb g l f (.returned (.tuple #[.agg asZ,.bool false,.int .i64 0])) wz:=by
 have fB:=hlt gb hF
 have hn:g.next f=g.upd f.chan f.track (g.op f.chan f.track++ [f]):=by
  unfold GS.next;rw[if_neg (by simp[he]),hl];rfl
 have hK:KeepF F w wz:=hR.kp.trans (.grown (F:=fun g=>g=rb) BP (fun g hg=>.inl Hx)) (fun g hg=>.inr (by rw[hg];exact da));refine⟨fun k=>F k∨blk A3=some k,l++ [f],?_,⟨⟨A3,c3,?_,?_,?_⟩,.inl hF,?_,?_,?_⟩,by simp,hK,.inl ⟨?_,by rw[he];rfl⟩⟩
 ·rintro k (h|h)
  ·exact .inl h
  exact(hR.bl k h).1
 ·rw[hn];show Box wz gb _ #[_,.bool g.dead];rw[hd];exact hR.bg.grown BP (sne Wq)
 ·exact zk hR.own BP (fun k e e2=>by injection e2 with e2;exact(hR.bl k e).2.2.2.1 e2.symm)
 ·exact fun k e=>⟨.inr e,(hR.bl k e).2.1⟩
 ·rintro k (h|h)
  ·exact q5 (hlt k h) hK.1
  exact q5 (hR.own.blk_lt h).2 BP.size
 ·rw[hn];exact zcR cS
 ·intro x hx;rcases v0.1 hx with h|h
  ·exact gh x h
  simp at h;subst h;exact hf
 unfold GS.out;rw[if_neg (fun h=>by rw[h.2.1,h.2.2]at hl;cases hl)]
theorem zcS{g:GS}{l:List Fr}{f:Fr}(cS:∀c t,g.op c t=l.filter (onT c t))(c t:Nat):(g.upd f.chan f.track []).op c t=((l++ [f]).filter (fun x=> !onT f.chan f.track x)).filter (onT c t):=by
 show(if c=f.chan∧t=f.track then []else g.op c t)=_
 rw[List.filter_filter,j8];have hz:∀(q:Bool),(q&& !q)=false:=by decide
 by_cases h:c=f.chan∧t=f.track
 ·rw[if_pos h,h.1,h.2];simp
 rw[if_neg h,cS]
 have hx:∀x:Fr,(onT c t x&& !onT f.chan f.track x)=onT c t x:=fun x=>by
  unfold onT;by_cases e1:x.chan=c
  ·by_cases e2:x.track=t
   ·have:¬(c=f.chan∧t=f.track):=h;subst e1 e2;by_cases e3:x.chan=f.chan
    ·(have e4:¬x.track=f.track:=fun e=>h ⟨e3,e⟩);simp[e4]
    simp[e3]
   simp[e2]
  simp[e1]
 have mM:onT c t f=false:=by
  exact Z5k_
 simp only[hx];simp[mM]
theorem Km{wz:World}{B7 B8:Nat}{A5 A6:Option Addr}{c5 c6:Nat}{l M LL:List Fr}{f:Fr}{g:GS}(ry:LL=g.op f.chan f.track++ [f])(hlt:∀k,F k→k<w.heap.size)(hF:F gb)(hb:Box wz gb 67 #[.slice A6 M.length c6,.bool false])(ho:OwnF wz B8 A6 M.length c6 M)(hM:M=(l++ [f]).filter (fun x=> !onT f.chan f.track x))(h8:w.heap.size≤B8)
  (hK:KeepF F w wz) (hG:OwnG wz B7 A5 (zZ LL).length c5 (zZ LL)) (tk:∀b,blk A5=some b→w.heap.size≤b∧b<B8)
  (he:g.err f=0) (hd:g.dead=false) (cS:∀c t,g.op c t=l.filter (onT c t)) (gh:∀x∈l,x.wf∧x.load.length≤1000000) (hf:f.wf∧f.load.length≤1000000) (hl:f.fin=true∧f.last=true):
  YC w F gb g l f (.returned (.tuple #[.agg #[.int .u16 (f.chan:Int),.int .u8 (f.track:Int),.slice A5 (zZ LL).length c5],.bool true,.int .i64 0])) wz:=by
 have fB:=hlt gb hF
 have hn:g.next f=g.upd f.chan f.track []:=by
  unfold GS.next;rw[if_neg (by simp[he]),hl.1,hl.2];rfl
 have m4:M.length≤l.length+1:=by rw[hM];exact q7 (z7 _ _) Wz
 refine⟨fun k=>F k∨blk A6=some k,M,?_,⟨⟨A6,c6,?_,ho.base_le (Nat.zero_le _),?_⟩,.inl hF,?_,?_,?_⟩,m4,hK,.inr ⟨⟨f.chan,f.track,zZ LL⟩,A5,c5,?_,rfl,hG.base_le (Nat.zero_le _),?_⟩⟩
 ·rintro k (h|h)
  ·exact .inl h
  exact .inr (q7 h8 (ho.blk_lt h).1)
 ·rw[hn];show Box wz gb _ #[_,.bool g.dead];rw[hd];exact hb
 ·exact fun k e=>⟨.inr e,by have:=(ho.blk_lt e).1;omega⟩
 ·rintro k (h|h)
  ·exact q5 (hlt k h) hK.1
  exact(ho.blk_lt h).2
 ·rw[hn,hM];exact zcS cS
 ·intro x hx;rw[hM]at hx;have hx:=(v5.1 hx).1;rcases v0.1 hx with h|h
  ·exact gh x h
  simp at h;subst h;exact hf
 ·unfold GS.out;rw[if_pos ⟨he,hl.1,hl.2⟩,ry]
 intro b bE;have h5:=tk b bE;refine⟨?_,h5.1⟩;rintro(h|h)
 ·have:=hlt b h;omega
 have:=(ho.blk_lt h).1;omega
theorem Kn(F:Nat→Prop)(gb:Nat)(g:GS)(l:List Fr)(f:Fr)(w:World)(h:RGa w F gb g l)(hi:g.Inv)(hf:f.wf)(fD:f.load.length≤1000000)(hn:l.length≤900000):
  Calls prog 57 #[.pointer (some ⟨gb,0,none⟩),.agg (frV f)] w (YC w F gb g l f):=by
 have hd0:=Q2 (zcP h hi);obtain⟨⟨A,c,hb,hO,gO⟩,hF,hlt,cS,gh⟩:=h;have tU:=g.err_cases f;obtain⟨fb,w0,uH,pj,io,Hr⟩:=zo w (frV f) 97;obtain⟨rb,w1,eB,Gy,bO,iJ⟩:=zo w0 asZ 42;obtain⟨nb,w2,CC,UH,eA,H3⟩:=zo w1 asZ 42;have Hc:=(Hr.trans (iJ.mono Hr.size)).trans (H3.mono (q7 Hr.size iJ.size));have L3:w.heap.size≤fb:=by omega
 have lz:w.heap.size≤rb:=by rw[eB];exact Hr.size
 have MS:w.heap.size≤nb:=by rw[CC];exact q7 Hr.size iJ.size
 have nP:fb≠rb:=by have:=io.lt;omega
 have UI:fb≠nb:=by have:=(io.below iJ).lt;omega
 have lL:rb≠nb:=by have:=bO.lt;omega
 have DJ:=hb.lt;have bE:=hb.below Hc;have fJ:=(io.below iJ).below H3;have cE:=bO.below H3;have iQ:=zi hO Hc;have HE:=Q2 tU;have HF:=Q2 hf;have HW:=Q2 gh;have HO:=Q2 cS;have HQ:Hid (fb=w.heap.size∧rb=w.heap.size+1∧nb=w.heap.size+2∧w0=w.alloc (.cells (frV f) 97)∧w1=w0.alloc (.cells asZ 42)∧w2=w1.alloc (.cells asZ 42)):=Q2 ⟨uH,by rw[eB,pj];simp,by rw[CC,Gy,pj];simp,pj,Gy,UH⟩;clear tU hf gh cS io bO uH pj eB Gy CC UH Hr iJ H3;unfold asZ frV at*;go_enter func57,ntmps57;go_upto_region 2 with fail;rw[←HQ.out.2.2.1,←HQ.out.2.1,←HQ.out.1,←HQ.out.2.2.2.1,←HQ.out.2.2.2.2.1,←HQ.out.2.2.2.2.2];clear HQ;clear w1 w0;have c0:=bE.c0;have c1:=bE.c1;have n0:=(eA).c0;have n1:=(eA).c1;have n2:=(eA).c2;have f0:=(fJ).c0;have f1:=(fJ).c1;have f2:=(fJ).c2;have f3:=(fJ).c3;have f4:=(fJ).c4;have f5:=(fJ).c5;have f6:=(fJ).c6;have f7:=(fJ).c7;rcases HE.out with⟨he,ml⟩|⟨ml,dp⟩
 ·have Ta:=Q2 he;obtain rfl:=hd0.out ml;rw[ml]at c1 bE;clear he ml HE;go_wp2_with(with_reducible refine h_B ?_);refine zc (zm (v:=.agg #[.int .u16 0,.int .u8 0,.slice none 0 0]) (vs:=[.int .u16 0,.int .u8 0,.slice none 0 0]) rfl rfl rfl rfl (cE) rfl Wj Wz WZ #[.int .u16 0,.int .u8 0,.slice none 0 0] Wz ?_);intro wz ns BP en;go_wp2_with(with_reducible refine h_B ?_);have bX:=bE.grown BP (sne Wq);have eN:=zk iQ BP (fun k hk e=>by injection e with e;have:=hlt k (gO k hk).1;omega);exact zv rfl ns rfl rfl rfl underlying42 rfl Wj rfl (X3 hlt bX eN gO hF (KeepF.below (Hc.grown BP Hc.size Wx)) (k:=9) Ta.out Wq)
 rw[ml]at c1 bE;have cS:=JB gb f A l.length c false l w2 bE iQ.rd Wq;rw[←HO.out]at cS;obtain⟨L,hL⟩:∃L,L=g.op f.chan f.track:=⟨_,rfl⟩
 rw[←hL]at cS dp;have hLl:L.length≤l.length:=by rw[hL,HO.out];exact z7 _ _
 have hLm:zI L≤16384:=by rw[hL];exact(hi.goes _ _).len
 have HLw:Hid (∀x∈L,x.wf∧x.load.length≤1000000):=Q2 (fun x hx=>HW.out x (by rw[hL,HO.out]at hx;exact(v5.1 hx).1));have HL:=Q2 hL;have HR:=Q2 dp;have GP:=Q2 ml;clear HE hL dp ml hd0;have dr:=zh f.load;unfold frV at cS;go_wp2_with fail;refine cS.mono ?_;rintro e w3 ⟨A2,c2,rfl,eN,Bn⟩;have bX:=bE.below Bn;have wY:=fJ.below Bn;have cl:=cE.below Bn;have oV:=eA.below Bn;have Wa:=zi iQ Bn;have Hh:=Hc.trans (Bn.mono Hc.size);have Wk:w2.heap.size≤w3.heap.size:=Bn.size;have om:w.heap.size≤w2.heap.size:=Hc.size;have dm:=fJ.lt;have im:=cE.lt;have cX:=eA.lt;have ig:∀k,blk A2=some k→w2.heap.size≤k:=fun k e=>(eN.blk_lt e).1
 clear cS bE fJ cE eA iQ Bn n0 n1 n2 c0 c1 f0 f1 f2 f3 f4 f5 f6 f7;have c0:=bX.c0;have c1:=bX.c1;have n0:=(oV).c0;have n1:=(oV).c1;have n2:=(oV).c2;have f0:=(wY).c0;have f1:=(wY).c1;have f2:=(wY).c2;have f3:=(wY).c3;have f4:=(wY).c4;have f5:=(wY).c5;have f6:=(wY).c6;have f7:=(wY).c7;have B4:=Q2 eN.rd;have hdm:16384+f.load.length≤1100000:=by omega
 go_wp2_with fail;go_loopw [10,9] (fun CD s9 wr=>∃k:Nat,k≤L.length∧CD= .int .i64 (k:Int)∧s9= .int .i64 ((f.load.length:Int)+(zI (L.take k):Int))∧w3=wr) (fun CD _ _=>L.length-(KS CD).toNat)
 case atStart=>exact⟨0,by omega,rfl,by simp[zI],rfl⟩
 obtain⟨k,hk,rfl,rfl,rfl⟩:=hrel;by_cases hlt:k<L.length
 ·have g1:(k:Int)<(L.length:Int):=by omega
  obtain⟨b,off,R9,dP,bK,bD⟩:=qm yE B4.out hlt;have k7:w3.cell? ⟨b,off+k*8+7,none⟩=some (.string (str L[k].load)):=bD 7 _ rfl;have HT:zI (L.take (k+1))=zI (L.take k)+L[k].load.length:=by rw[Vy bK,qz];simp[zI]
  have HT2:zI (L.take (k+1))≤zI L:=by
   have:=qz (L.take (k+1)) (L.drop (k+1));rw[vz]at this;omega
  have wh:=zh L[k].load;generalize L[k]=x at*;subst R9;have WK:=Q2 HT;have h7:x.load.length≤16384:=by omega
  have h8:zI (L.take k)≤16384:=by omega
  clear HT HT2;go_wp2_with fail;exact⟨⟨k+1,by omega,by go_num,by rw[WK.out];congr 1;omega,trivial⟩,by simp[KS];omega⟩
 obtain rfl:k=L.length:=by omega
 have HT:L.take L.length=L:=vv;rw[HT];clear HT hlt hk;have Ba:=vW f w3 HF.out Wq;unfold frV at Ba;go_wp2_with fail;refine Ba.mono ?_;rintro e w4 ⟨rfl,lJ⟩;have Az:=Kj f A2 L.length c2 L w4 ((B4.out.below lJ).more lJ.size) Wq;have dK:=bX.below lJ;have r5:=wY.below lJ;have cV:=cl.below lJ;have Dr:=oV.below lJ;have Th:=zi Wa lJ;have Hn:=Hh.trans (lJ.mono Hh.size);have so:=zi eN lJ;have hib:w3.heap.size≤w4.heap.size:=lJ.size;clear Ba bX wY cl oV Wa Hh lJ eN B4 c0 c1 n0 n1 n2 f0 f1 f2 f3 f4 f5 f6 f7;have c0:=dK.c0;have c1:=dK.c1;have n0:=(Dr).c0;have n1:=(Dr).c1;have n2:=(Dr).c2;have f0:=(r5).c0;have f1:=(r5).c1;have f2:=(r5).c2;have f3:=(r5).c3;have f4:=(r5).c4;have f5:=(r5).c5;have f6:=(r5).c6;have f7:=(r5).c7;unfold frV at Az
 obtain⟨E0,PL⟩:∃E0:Nat,(E0:Int)=f.err:=by
  unfold Fr.err;split
  ·exact⟨0,rfl⟩
  exact⟨60,rfl⟩
 obtain⟨FT,Fp⟩:∃FT,FT=fitsB L f:=⟨_,rfl⟩
 rw[←Fp]at Az;have tW:=Q2 PL;have DF:=Q2 Fp;rw[←PL];clear PL Fp;go_upto_region 11 with fail;go_cut [51]from 44 to 50 (fun s wx=>∃x:Bool,s= .bool x∧Hid (x=(decide (E0=0)&& !FT))∧Below w4.heap.size w4 wx)
 case first=>
  by_cases he:E0=0
  ·subst he;go_wp2_with fail;refine Az.mono ?_;rintro e w5 ⟨rfl,il⟩;go_wp2_with fail;go_meet
   case rel=>exact⟨_,rfl,Q2 Wz,il⟩
  have h1:((E0:Int)==0)=false:=by simp;omega
  have h2:decide (E0=0)=false:=by simp[he]
  clear he;go_wp2_with fail;go_meet
  case rel=>exact⟨_,rfl,Q2 (by simp[h2]),VB _ _⟩
 obtain⟨x,rfl,HX,il⟩:=hcut;have cH:=dK.below il;have pg:=r5.below il;have dv:=cV.below il;have mV:=Dr.below il;have Ic:=zi Th il;have bz:=Hn.trans (il.mono Hn.size);have gA:=zi so il;have hfa:w4.heap.size≤wc.heap.size:=il.size;clear Az dK r5 cV Dr Th Hn il so c0 c1 n0 n1 n2 f0 f1 f2 f3 f4 f5 f6 f7;have c0:=cH.c0;have c1:=cH.c1;have n0:=(mV).c0;have n1:=(mV).c1;have n2:=(mV).c2;have f0:=(pg).c0;have f1:=(pg).c1;have f2:=(pg).c2;have f3:=(pg).c3;have f4:=(pg).c4;have f5:=(pg).c5;have f6:=(pg).c6;have f7:=(pg).c7;obtain⟨SZ,D3⟩:∃s,s=zI L:=⟨_,rfl⟩
 rw[←D3]at hLm ⊢;have HSZ:=Q2 D3;clear D3;obtain⟨E1,ww⟩:∃E1:Nat,E1=if x then 70 else E0:=⟨_,rfl⟩
 have MM:=Q2 ww;obtain⟨EE,Rk⟩:∃e,e=g.err f:=⟨_,rfl⟩
 have Un:EE=if E1=0∧16384<SZ+f.load.length then 3 else E1:=by
  have hx:=HX.out;have ix:=DF.out;have h0:=tW.out;rw[Rk,HSZ.out];rcases HR.out with⟨he,bJ⟩|⟨bJ,⟨he,h⟩|⟨h,⟨he,h2⟩|⟨he,h2⟩⟩⟩
  ·have:E0=60:=by
    (have:f.err=60:=by simp[Fr.err,bJ]);omega
   subst this;simp at hx;subst hx;simp at ww;subst ww;simp[he]
  ·have:E0=0:=by
    (have:f.err=0:=by simp[Fr.err,bJ]);omega
   subst this;rw[h]at ix;subst ix;simp at hx;subst hx;simp at ww;subst ww;simp[he]
  ·have:E0=0:=by
    (have:f.err=0:=by simp[Fr.err,bJ]);omega
   subst this;rw[h]at ix;subst ix;simp at hx;subst hx;simp at ww;subst ww;simp[he,h2]
  have:E0=0:=by
   (have:f.err=0:=by simp[Fr.err,bJ]);omega
  subst this;rw[h]at ix;subst ix;simp at hx;subst hx;simp at ww;subst ww;simp[he];omega
 have LM:=Q2 Un;have TQ:=Q2 Rk;clear ww Un Rk;go_upto_if 51 with fail;go_cut [11]from 44 to 51 (fun s wx=>s= .int .i64 (E1:Int)∧wc=wx)
 case first=>
  cases x
  ·go_wp2_with fail;go_meet
   case rel=>exact⟨by rw[MM.out];rfl,rfl⟩
  go_wp2_with fail;go_meet
  case rel=>exact⟨by rw[MM.out];rfl,rfl⟩
 obtain⟨rfl,rfl⟩:=hcut;go_upto_region 13 with fail;go_cut [57]from 44 to 56 (fun s wx=>∃y:Bool,s= .bool y∧Hid (y=(decide (E1=0)&&decide (16384<SZ+f.load.length)))∧wc=wx)
 case first=>
  by_cases he:E1=0
  ·(have h1:decide ((16384:Int)<(f.load.length:Int)+(SZ:Int))=decide (16384<SZ+f.load.length):=by rw[Bool.eq_iff_iff];simp;omega);(have h0:((E1:Int)==0)=true:=by simp;omega);(have h2:decide (E1=0)=true:=by simp[he]);exact Z6b_
  have h1:((E1:Int)==0)=false:=by simp;omega
  have h2:decide (E1=0)=false:=by simp[he]
  exact Z6b_
 obtain⟨y,rfl,HY,rfl⟩:=hcut;go_upto_if 57 with fail;go_cut [11]from 44 to 57 (fun s wx=>s= .int .i64 (EE:Int)∧wc=wx)
 case first=>
  cases y
  ·have hh:EE=E1:=by
    rw[LM.out,if_neg];intro h;have:=HY.out;simp[h.1,h.2]at this
   exact Z56_
  have hh:EE=3:=by
   rw[LM.out,if_pos];have:=HY.out;simpa using this.symm
  exact Z56_
 obtain⟨rfl,rfl⟩:=hcut;by_cases he:EE=0
 ·have HG:Hid (g.err f=0):=Q2 (by rw[←TQ.out];exact he);rw[he];clear he c0 c1 f0 f1 f2 f3 f4 f5 f6 f7 n0 n1 n2;replace gA:OwnF wc w.heap.size A2 L.length c2 L:=gA.base_le om;go_upto_region 19 with fail;go_cut []from 44 to 77 (fun wx=>∃(A3:Option Addr) (c3:Nat),RgS w wx F gb fb rb nb A2 c2 L f A3 c3 (l++ [f]))
  case first=>
   have B9:Below wc.heap.size wc wc.drew:=za (VB _ wc) 1;replace cH:=cH.below B9;replace pg:=pg.below B9;replace dv:=dv.below B9;replace mV:=mV.below B9;replace Ic:=zi Ic B9;replace gA:=zi gA B9;replace bz:=bz.trans (B9.mono bz.size);have hw5:wc.heap.size≤wc.drew.heap.size:=B9.size;have k0:=cH.c0;refine zt (fun W:World=>Box W fb 97 #[.bool f.first,.bool f.last,.bool f.beg,.bool f.fin,.int .u8 (f.ty:Int),.int .u8 (f.track:Int),.int .u16 (f.chan:Int),.string (str f.load)]) Wj ?_;have hS:=pg;generalize wc.drew=wd at*;refine rg_t 0 hS ?_;simp only[ky,kx,Act.put,v1,v2,v3];refine rg_t 1 hS ?_;simp only[g_S];refine rg_t 2 hS ?_;simp only[g_S];refine rg_t 3 hS ?_;simp only[g_S];refine ze 5 (v:=?_) rfl Wj Wj Wj hS rfl ?_ ?_;rotate_left
   ·intro wS He;have k0:=He.cell (j:=0) rfl;have k1:=He.cell (j:=1) rfl;have k2:=He.cell (j:=2) rfl;have k3:=He.cell (j:=3) rfl;have k4:=He.cell (j:=4) rfl;have k5:=He.cell (j:=5) rfl;have k6:=He.cell (j:=6) rfl;have k7:=He.cell (j:=7) rfl;go_simp;(with_reducible rfl)
   simp only[g_S];refine xO 4 6 rfl rfl Wj rfl rfl (fun K hK=>?_) (fun K hK=>?_)
   ·have qq65:=();exact Zz_
   exact Zz_
  obtain⟨A3,c3,hR⟩:=hcut;clear cH pg dv mV Ic gA bz;have fy:=hR.bf;have bV:=hR.br;have Ex:=hR.bn;have n0:=(Ex).c0;have n1:=(Ex).c1;have n2:=(Ex).c2;have f1:=fy.c1;have f3:=fy.c3;by_cases AI:(f.fin&&f.last)=true
  ·have sZ:Hid (f.fin=true∧f.last=true):=Q2 (by simpa using AI);clear AI;go_upto_region 20 with fail;go_cut [85]from 44 to 84 (fun s wx=>s= .bool false∧wc=wx)
   case first=>
    rw[sZ.out.1]at f3;rw[sZ.out.2]at f1;go_wp2_with fail;go_meet
    case rel=>exact⟨rfl,rfl⟩
   obtain⟨rfl,rfl⟩:=hcut;clear f1 f3;have f0:=(fy).c0;have f1:=(fy).c1;have f2:=(fy).c2;have f3:=(fy).c3;have f4:=(fy).c4;have f5:=(fy).c5;have f6:=(fy).c6;have f7:=(fy).c7;have i5:=hR.ol;(have hLx:L.length≤900000:=by omega);go_wp2_with(with_reducible refine h_A ?_);refine zc (jS yE slF underlying65 rfl rfl rfl rfl rfl f rfl i5 Wq Wq hR.kp.1 ?_);intro A4 c4 w6 bS bm eD bH;have aX:=hlt gb hF;have Ef:=hR.bg.grown bm (fun e=>by have:=ig gb e.symm;omega);have lv:=hR.bf.grown bm (fun e=>by have:=ig fb e.symm;omega);have Ep:=hR.br.grown bm (fun e=>by have:=ig rb e.symm;omega);have E6:=zk hR.own bm (fun k e e2=>(hR.bl k e).2.2.2.2.2 e2);have gj:KeepF F w w6:=hR.kp.trans (.grown (F:=fun k=>blk A2=some k) bm (fun g hg=>.inl hg)) (fun k hk=>.inr (by have:=ig k hk;omega))
   have hA4:∀k,blk A4=some k→w.heap.size≤k∧k≠fb∧k≠rb∧blk A3≠some k:=fun k e=>by
    have z1:=hR.bf.lt;have z2:=hR.br.lt;have z3:=hR.kp.1;rcases eD with e2|e2
    ·rw[e2]at e;have:=ig k e;exact⟨by omega,by omega,by omega,fun e3=>(hR.bl k e3).2.2.2.2.2 e⟩
    have h1:=e2 k e;exact⟨by omega,by omega,by omega,fun e3=>by have:=(hR.own.blk_lt e3).2;omega⟩
   have mh:=Q2 hR.bl;have ak:wc.heap.size≤w6.heap.size:=bm.size;obtain⟨ab,w7,dZ,Dg,hBa,dY⟩:=zo w6 (asV f.chan f.track none 0 0) 42;unfold asV at Dg hBa;clear hR i5 fy bV Ex f0 f1 f2 f3 f4 f5 f6 f7 n0 n1 n2;have f0:=(lv).c0;have f1:=(lv).c1;have f2:=(lv).c2;have f3:=(lv).c3;have f4:=(lv).c4;have f5:=(lv).c5;have f6:=(lv).c6;have f7:=(lv).c7;go_upto_region 24 with fail;rw[←dZ,←Dg];(have Br:w6.heap.size≤ab:=by omega);(have Ro:∀k,blk A4=some k→k<w6.heap.size:=fun k e=>(bS.blk_lt e).2);(have RW:∀k,blk A3=some k→k<w6.heap.size:=fun k e=>(E6.blk_lt e).2);clear dZ Dg;(obtain⟨LL,ry⟩:∃LL,LL=L++ [f]:=⟨_,rfl⟩);(have aG:LL.length=L.length+1:=by rw[ry];simp);rw[←ry]at bS;have rF:=Q2 ry;have UV:Hid (Goes LL):=Q2 (by rw[ry,HL.out];exact zag hi HG.out);have R5:w6.heap.size≤w7.heap.size:=dY.size;clear ry;have Ua:=Ef.below dY;have IK:=lv.below dY;have B1:=Ep.below dY;have TJ:=zi E6 dY;have dJ:=zi bS dY;have ic:KeepF F w w7:=gj.trans (.below (F:=F) dY) (fun g hg=>.inl hg);have nY:=lv.lt;have fA:=Ep.lt;have Tx:=Ef.lt;clear Ef lv Ep E6 gj bS bm eD bH dY f0 f1 f2 f3 f4 f5 f6 f7;go_wp2_with fail;go_loopw [13,14] (fun Pq s14 wr=>∃(k c5:Nat) (A5:Option Addr),k≤L.length+1∧Pq= .int .i64 (k:Int)∧Box wr ab 42 #[.int .u16 (f.chan:Int),.int .u8 (f.track:Int),.slice A5 (zZ (LL.take k)).length c5]∧OwnG wr w7.heap.size A5 (zZ (LL.take k)).length c5 (zZ (LL.take k))∧KeepF (fun k=>k=ab) w7 wr) (fun Pq _ _=>L.length+1-(KS Pq).toNat)
   case atStart=>exact⟨0,0,none,by omega,rfl,hBa,Own.none_ _ _ _ _,KeepF.refl _ _⟩
   obtain⟨k,c5,A5,hk,rfl,tM,bJ,mC⟩:=hrel;by_cases pD:k<L.length+1
   ·(have g1:(k:Int)<((L.length+1:Nat):Int):=by omega);obtain⟨b,off,No,dP,bK,bD⟩:=qm yE dJ.rd pD;have dI:b<w6.heap.size:=Ro b (by rw[No];rfl);obtain⟨L0,s0,BH,BI⟩:=zcQ UV.out.first bK;obtain⟨mS,Dk⟩:=Kl UV.out.len BI;(have dx:∀W,KeepF (fun k=>k=ab) w7 W→∀j u,(frC LL[k])[j]?=some u→W.cell? ⟨b,off+k*8+j,none⟩=some u:=fun W hW j u hu=>((hW.toBelow (B:=w6.heap.size) R5 (fun g hg=>by rw[hg];exact Br)).cell (p:=⟨b,off+k*8+j,none⟩) dI).trans (bD j u hu));have Tr:=Q2 BI;have HS1:=Q2 BH;have k2:wr.cell? ⟨b,off+k*8+2,none⟩=some (.bool LL[k].beg):=dx wr mC 2 _ rfl;have k4:wr.cell? ⟨b,off+k*8+4,none⟩=some (.int .u8 (LL[k].ty:Int)):=dx wr mC 4 _ rfl;have HC7:Hid (∀W,KeepF (fun k=>k=ab) w7 W→W.cell? ⟨b,off+k*8+7,none⟩=some (.string (str LL[k].load))):=Q2 (fun W hW=>dx W hW 7 _ rfl);clear BH BI bD dx;generalize LL[k]=x at*;subst No;(obtain⟨bg,eP⟩:∃bg,bg=x.beg:=⟨_,rfl⟩);rw[←eP]at k2;have HB:=Q2 eP;clear eP;go_upto_if 106 with fail;go_cut []from 96 to 117 (fun wx=>∃(A6:Option Addr) (c6:Nat),Box wx ab 42 #[.int .u16 (f.chan:Int),.int .u8 (f.track:Int),.slice A6 (L0.length+1) c6]∧OwnG wx w7.heap.size A6 (L0.length+1) c6 (L0++ [s0])∧KeepF (fun k=>k=ab) w7 wx)
    case first=>
     have h1:=HS1.out;rw[←HB.out]at h1
     cases bg
     ·rw[if_neg Wz]at h1;rw[h1]at bJ tM;clear h1;go_wp2_with fail;go_meet
      case rel=>exact⟨A5,c5,by simpa using tM,by simpa using bJ,mC⟩
     rw[if_pos rfl]at h1;obtain⟨eQ,oo⟩:=List.append_inj' h1 rfl;rw[eQ]at bJ tM;have i9:Hid (s0=⟨x.ty,[]⟩):=Q2 (by injection oo with oo;exact oo.symm);clear h1 eQ oo;go_upto_region 28 with fail;have Tj:wr.drew.cell? ⟨b,off+k*8+4,none⟩=some (.int .u8 (x.ty:Int)):=k4;have B9:Below wr.heap.size wr wr.drew:=za (VB _ wr) 1;have Be:=tM.below B9;have dS:=zi bJ B9;have pM:=mC.trans (.below (F:=fun k=>k=ab) B9) (fun g hg=>.inl hg);(have tk:∀k,blk A5=some k→w7.heap.size≤k:=fun k e=>(bJ.blk_lt e).1);have Rh:=Be.lt;clear tM bJ mC k2 k4 B9;refine zt (fun W:World=>W.cell? ⟨b,off+k*8+4,none⟩=some (.int .u8 (x.ty:Int))) Wj ?_;have hS:=Tj;clear Tj;generalize wr.drew=wd at*;refine rg_t 0 hS ?_;simp only[ky,kx,Act.put,v1,v2,v3];refine rg_t 2 hS ?_;simp only[g_S];refine rg_t 3 hS ?_;simp only[g_S];refine rg_t 4 hS ?_;simp only[g_S];refine rg_t 5 hS ?_;simp only[g_S];refine ze 6 (v:=?_) rfl Wj Wj Wj hS rfl ?_ ?_;rotate_left
     ·intro wS He;have k0:=He;go_simp;(with_reducible rfl)
     simp only[g_S];refine rg_t 7 hS ?_;simp only[g_S];refine xO 1 8 rfl rfl Wj rfl rfl (fun K hK=>?_) (fun K hK=>?_)
     ·have qq7g:=();exact Z19_
     exact Z19_
    obtain⟨A6,c6,cJ,bS,El⟩:=hcut;clear tM bJ mC k2 k4;obtain⟨gs,rfl,hip,hiq⟩:=QY bS Wq;have k7:=HC7.out wc El;have nO:=qm xd bS.rd (k:=L0.length) Wq;obtain⟨gs',off',cf,_,DU,bD⟩:=nO;(obtain⟨rfl,rfl⟩:gs=gs'∧0=off':=by simpa using cf);(have Dp:(L0++ [s0])[L0.length]=s0:=by simp);rw[Dp]at bD;have ck:=bD 1 _ rfl;simp only[Nat.zero_add]at ck;clear bD cf Dp DU;have EF:IntKind.i64.wrap (L0.length:Int)=(L0.length:Int):=IntWalk.i64_in _ ⟨by omega,by omega⟩;(have g3:(L0.length:Int)<(L0.length:Int)+1:=by omega);have z0:=cJ.c2;go_upto_region 30 with fail;have B9:Below wc.heap.size wc wc.drew:=za (VB _ wc) 1;have hS:Box wc.drew ab 42 #[.int .u16 (f.chan:Int),.int .u8 (f.track:Int),.slice (some ⟨gs,0,none⟩) (L0.length+1) c6]∧wc.drew.cell? ⟨b,off+k*8+7,none⟩=some (.string (str x.load)):=⟨cJ.below B9,k7⟩;have dN:wc.drew.cell? ⟨gs,L0.length*2+1,none⟩=some (.string (str s0.load)):=ck;have dS:=zi bS B9;have pM:=El.trans (.below (F:=fun g=>g=ab) B9) (fun g hg=>.inl hg);have IU:=hBa.lt;clear cJ bS El ck k7 z0 B9;refine zt (fun W:World=>Box W ab 42 #[.int .u16 (f.chan:Int),.int .u8 (f.track:Int),.slice (some ⟨gs,0,none⟩) (L0.length+1) c6]∧W.cell? ⟨b,off+k*8+7,none⟩=some (.string (str x.load))) Wj ?_;generalize wc.drew=wd at*;refine rg_t 0 hS ?_;simp only[ky,kx,Act.put,v1,v2,v3];refine ze 1 (v:=?_) rfl Wj Wj Wj hS rfl ?_ ?_;rotate_left
    ·intro wS He;have k0:=He.1.cell (j:=2) rfl;go_simp;(with_reducible rfl)
    simp only[g_S];refine rg_t 2 hS ?_;simp only[g_S];refine rg_t 3 hS ?_;simp only[g_S];refine ze 4 (v:=?_) rfl Wj Wj Wj hS rfl ?_ ?_;rotate_left
    ·intro wS He;have k0:=He.1.cell (j:=2) rfl;go_simp;(with_reducible rfl)
    simp only[g_S];refine rg_t 5 hS ?_;simp only[g_S];refine rg_t 6 hS ?_;simp only[g_S];refine rg_t 7 hS ?_;simp only[g_S];refine rg_t 9 hS ?_;simp only[g_S];refine rg_t 10 hS ?_;simp only[g_S];refine rg_t 11 hS ?_;simp only[g_S];refine rg_t 12 hS ?_;simp only[g_S];refine ze 13 (v:=?_) rfl Wj Wj Wj hS rfl ?_ ?_;rotate_left
    ·intro wS He;have k0:=He.2;go_simp;(with_reducible rfl)
    simp only[g_S];refine zj 8 rfl Wj rfl (fun K hK=>?_);go_simp;refine hK _ _ hS ?_;clear hK K;(try simp only[g_S]);(have o4:(9223372036854775807<s0.load.length+x.load.length)=False:=by simp;omega);have D0:=zh s0.load;have Sl:=zh x.load;refine rg_t 14 hS ?_;simp only[g_S];simp only[jn];clear o4 D0 Sl;refine rg_t 15 hS ?_;simp only[g_S];refine rg_t 16 hS ?_;simp only[g_S];refine zj 17 rfl Wj rfl (fun K hK=>?_);refine Xh (k:=L0.length) (i:=1) (v:=.string (str (s0.load++x.load))) (vs:=[.string (str (s0.load++x.load))]) xd rfl rfl rfl dS Wq Wz (⟨s0.ty,s0.load++x.load⟩:Sg) rfl Wj (by simp[sgC]) Wz Wq ?_;intro w9 dt du iK;clear iK;(have dj:(L0++ [s0]).set L0.length ⟨s0.ty,s0.load++x.load⟩=L0++ [⟨s0.ty,s0.load++x.load⟩]:=by simp);rw[dj,←Tr.out]at dt;have iM:=And.intro (hS.1.grown du ux) ((((VB w7.heap.size wd).grown du pM.1 Wx).cell (p:=⟨b,off+k*8+7,none⟩) dP).trans hS.2);have WO:=pM.trans (.grown (F:=fun g=>w7.heap.size≤g) du (fun g hg=>.inl (by injection hg with hg;omega))) (fun g hg=>.inr hg);have bQ:Hid ((zZ (LL.take (k+1))).length=L0.length+1):=Q2 (by rw[Tr.out];simp);refine hK _ _ iM ?_;clear hK K hS dN dS pM dj du EF g3;(try simp only[g_S]);refine zD Wj ?_;go_wp2_with(with_reducible refine h_A ?_);exact⟨⟨k+1,c6,some ⟨gs,0,none⟩,by omega,by go_num,by rw[bQ.out];exact iM.1,by rw[bQ.out];exact dt,WO⟩,by simp[KS];omega⟩
   (have g1:¬(k:Int)<((L.length+1:Nat):Int):=by omega);have CX:Hid (LL.take k=LL):=Q2 (kI Wq);rw[CX.out]at tM bJ;(obtain⟨w8,rfl⟩:∃W,W=wr:=⟨_,rfl⟩);have H5:=zV Ua mC (show ¬gb=ab by omega);have nI:=zV B1 mC (show ¬rb=ab by omega);have WM:=zV IK mC (show ¬fb=ab by omega);have dS:=zy TJ mC (fun g e e2=>by have:=RW g e;omega);have gH:KeepF F w w8:=ic.trans mC (fun g hg=>.inr Wq);have PO:=ic.1;have Rh:=hBa.lt;have Ww:=H5.lt;have WC:=nI.lt;(obtain⟨M,hM⟩:∃M,M=l++ [f]:=⟨_,rfl⟩);rw[←hM]at H5 dS;(have G6:M.length≤900001:=by rw[hM];simp;omega);have HM:=Q2 hM;have B4:=Q2 dS.rd;clear hM Ua B1 IK TJ ic mC hBa dJ dS;have g0:=H5.c0;go_wp2_with(with_reducible refine h_A ?_);go_loopw [16,15] (fun RQ aV wr=>∃(j m c6:Nat) (A6:Option Addr),j≤M.length∧RQ= .int .i64 (j:Int)∧aV= .slice A6 m c6∧m≤j∧OwnF wr w8.heap.size A6 m c6 ((M.take j).filter (fun x=> !onT f.chan f.track x))∧Below w8.heap.size w8 wr) (fun RQ _ _=>M.length-(KS RQ).toNat)
   case atStart=>exact⟨0,0,0,none,by omega,rfl,rfl,by omega,Own.none_ _ _ _ _,VB _ _⟩
   clear g0;obtain⟨j,m,c6,A6,hj,rfl,rfl,hm,hO,hB⟩:=hrel;have si:=H5.below hB;have AR:=WM.below hB;have g0:=si.c0;by_cases I1:j<M.length
   ·(have g1:(j:Int)<(M.length:Int):=by omega);have f5:=AR.c5;have f6:=AR.c6;obtain⟨b,off,PY,dP,bK,bD⟩:=qm yE B4.out I1;subst PY;have HT:=Q2 (Vy bK);generalize M[j]=x at*;(have dx:∀W,Below w8.heap.size w8 W→∀i u,(frC x)[i]?=some u→W.cell? ⟨b,off+j*8+i,none⟩=some u:=fun W hW i u hu=>(hW.cell (p:=⟨b,off+j*8+i,none⟩) dP).trans (bD i u hu));have sP:=Q2 dx;have hq:=dx wr hB;obtain⟨q1,q2,q3,q4,xy,xt,xc,xl⟩:=x;have k0:=hq 0 _ rfl;have k1:=hq 1 _ rfl;have k2:=hq 2 _ rfl;have k3:=hq 3 _ rfl;have k4:=hq 4 _ rfl;have k5:=hq 5 _ rfl;have k6:=hq 6 _ rfl;have k7:=hq 7 _ rfl;simp only[z8]at k0;clear bD dx hq;by_cases rI:xc=f.chan∧xt=f.track
    ·have mD:Hid ((M.take (j+1)).filter (fun x=> !onT f.chan f.track x)=(M.take j).filter (fun x=> !onT f.chan f.track x)):=Q2 (by
      rw[HT.out,j8];have:onT f.chan f.track ⟨q1,q2,q3,q4,xy,xt,xc,xl⟩=true:=by unfold onT;simp;omega
      simp[this])
     (have d1:((xc:Int)!=(f.chan:Int))=false:=by simp;omega);(have d2:((xt:Int)!=(f.track:Int))=false:=by simp;omega);clear rI;go_upto_region 35 with fail;(try simp only[Act.put]);go_quiet(fail);have dM:=za hB nq;clear k0 k1 k2 k3 k4 k5 k6 k7 g0 f5 f6 d1 d2;go_wp2_with(with_reducible refine h_A ?_);exact⟨⟨j+1,m,c6,A6,by omega,by go_num,rfl,by omega,by rw[mD.out];exact hO.drewN nq,dM⟩,by simp[KS];omega⟩
    by_cases e1:xc=f.chan
    ·exact Z1l_
    have qq8e:=();exact Z1l_
   (obtain rfl:j=M.length:=by omega);rw[vv]at hO;have m4:=YK yE hO;(obtain⟨R,hR⟩:∃R,R=M.filter (fun x=> !onT f.chan f.track x):=⟨_,rfl⟩);rw[←hR]at hO m4;have eZ:Hid (R=(l++ [f]).filter (fun x=> !onT f.chan f.track x)):=Q2 (by rw[hR,HM.out]);have G1:=Q2 m4;clear hR m4;have Su:=nI.below hB;have Ss:=tM.below hB;go_wp2_with(with_reducible refine h_B ?_);refine zc (zm (v:=.slice A6 m c6) (vs:=[.slice A6 m c6]) rfl rfl rfl rfl si rfl Wj Wz WZ #[.slice A6 m c6,.bool false] Wz ?_);intro w9 gu du iK;clear iK g0;have O2:=Su.grown du ux;have Ge:=Ss.grown du ux;have z0:=Ge.c0;have z1:=Ge.c1;have z2:=Ge.c2;go_wp2_with(with_reducible refine h_B ?_);refine zc (zm (v:=.agg #[.int .u16 (f.chan:Int),.int .u8 (f.track:Int),.slice A5 (zZ LL).length c5]) (vs:=[.int .u16 (f.chan:Int),.int .u8 (f.track:Int),.slice A5 (zZ LL).length c5]) rfl rfl rfl rfl O2 rfl Wj Wz WZ #[.int .u16 (f.chan:Int),.int .u8 (f.track:Int),.slice A5 (zZ LL).length c5] Wz ?_);intro wz ns BP en;clear en;(have eE:Box wz gb 67 #[.slice A6 R.length c6,.bool false]:=by rw[G1.out];exact gu.grown BP ux);(have Nv:OwnF wz w8.heap.size A6 R.length c6 R:=by rw[G1.out];exact zk (zk hO du (fun g e e2=>by have:=(hO.blk_lt e).1;injection e2 with e2;omega)) BP (fun g e e2=>by have:=(hO.blk_lt e).1;injection e2 with e2;omega));have sG:KeepF F w wz:=((gH.trans (.below (F:=F) hB) (fun g hg=>.inl hg)).trans (.grown (F:=F) du (fun g hg=>.inl MJ)) (fun g hg=>.inl hg)).trans (.grown (F:=fun g=>g=rb) BP (fun g hg=>.inl Hx)) (fun g hg=>.inr (by rw[hg];exact lz));have hGz:=zk (zk (zi bJ hB) du (fun g e e2=>by have:=(bJ.blk_lt e).1;injection e2 with e2;omega)) BP (fun g e e2=>by have:=(bJ.blk_lt e).1;injection e2 with e2;omega);go_wp2_with(with_reducible refine h_B ?_);exact zv rfl ns rfl rfl rfl underlying42 rfl Wj rfl (Km (by rw[rF.out,HL.out]) hlt hF eE Nv eZ.out gH.1 sG hGz (fun g e=>⟨q7 PO (bJ.blk_lt e).1,(bJ.blk_lt e).2⟩) HG.out GP.out HO.out HW.out ⟨HF.out,fD⟩ sZ.out)
  have sZ:Hid ((f.fin&&f.last)=false):=Q2 (by simpa using AI);go_upto_region 20 with fail;go_cut [85]from 44 to 84 (fun s wx=>s= .bool true∧wc=wx)
  case first=>
   have h0:=sZ.out;clear AI;rcases(by cases f.fin<;>simp:f.fin=false∨f.fin=true)with mR|mR
   ·rw[mR]at f3;clear mR h0;go_wp2_with fail;go_meet
    case rel=>exact⟨rfl,rfl⟩
   (have h1:f.last=false:=by rw[mR]at h0;simpa using h0);rw[mR]at f3;rw[h1]at f1;clear mR h0 h1;go_wp2_with fail;go_meet
   case rel=>exact⟨rfl,rfl⟩
  obtain⟨rfl,rfl⟩:=hcut;go_wp2_with(with_reducible refine h_B ?_);refine zc (zm (v:=.agg #[.int .u16 0,.int .u8 0,.slice none 0 0]) (vs:=[.int .u16 0,.int .u8 0,.slice none 0 0]) rfl rfl rfl rfl (bV) rfl Wj Wz WZ #[.int .u16 0,.int .u8 0,.slice none 0 0] Wz ?_);intro wz ns BP en;go_wp2_with(with_reducible refine h_B ?_);exact zv rfl ns rfl rfl rfl underlying42 rfl Wj rfl (zbK hR hlt hF lz BP HG.out GP.out HO.out HW.out ⟨HF.out,fD⟩ sZ.out)
 have HG:Hid (g.err f=EE):=Q2 TQ.out.symm;have aO:=Q2 he;have h1:((EE:Int)!=0)=true:=by simp;omega
 have fB:=hlt gb hF;have po:=bz.size;clear he f0 f1 f2 f3 f4 f5 f6 f7;go_wp2_with(with_reducible refine h_B ?_);refine zc (zm (v:=.bool true) (vs:=[.bool true]) rfl rfl rfl rfl cH rfl Wj Wz WZ #[.slice A l.length c,.bool true] Wz ?_);intro w6 cJ bm ej;have mo:=dv.grown bm (sne Wq);have rH:=mV.grown bm (sne Wq);have gj:KeepF F w w6:=(KeepF.below bz).trans (KeepF.grown (F:=F) bm (fun g hg=>.inl MJ)) (fun g hg=>.inl hg);clear cH dv mV bz bm c0 c1 n0 n1 n2;go_wp2_with(with_reducible refine h_B ?_);refine zc (zm (v:=.slice none 0 0) (vs:=[.slice none 0 0]) rfl rfl rfl rfl cJ rfl Wj Wz WZ #[.slice none 0 0,.bool true] Wz ?_);intro w7 gw H9 uV;have Ay:=mo.grown H9 (sne Wq);have Oj:=rH.grown H9 (sne Wq);have ic:KeepF F w w7:=gj.trans (KeepF.grown (F:=F) H9 (fun g hg=>.inl MJ)) (fun g hg=>.inl hg);clear cJ mo rH gj H9;have n0:=(Oj).c0;have n1:=(Oj).c1;have n2:=(Oj).c2;go_wp2_with(with_reducible refine h_B ?_);refine zc (zm (v:=.agg #[.int .u16 0,.int .u8 0,.slice none 0 0]) (vs:=[.int .u16 0,.int .u8 0,.slice none 0 0]) rfl rfl rfl rfl (Ay) rfl Wj Wz WZ #[.int .u16 0,.int .u8 0,.slice none 0 0] Wz ?_);intro wz ns BP en;go_wp2_with(with_reducible refine h_B ?_);have ph:=gw.grown BP (sne Wq);have gH:KeepF F w wz:=ic.trans (.grown (F:=fun g=>g=rb) BP (fun g hg=>.inl Hx)) (fun g hg=>.inr (by rw[hg];exact lz));exact zv rfl ns rfl rfl rfl underlying42 rfl Wj rfl (X3 hlt ph (Own.none_ _ _ _ _) (fun k h=>by cases h) hF gH (k:=EE) HG.out aO.out)
end Go.PH
section
namespace Go.PH
inductive Vl where
 | mk (kind n:Nat) (s:List UInt8) (keys:List (List UInt8)) (list:List Vl)
namespace Vl
def kind:Vl→Nat|mk k _ _ _ _=>k
def n:Vl→Nat|mk _ n _ _ _=>n
def s:Vl→List UInt8|mk _ _ s _ _=>s
def keys:Vl→List (List UInt8)|mk _ _ _ k _=>k
def list:Vl→List Vl|mk _ _ _ _ l=>l
theorem eta(v:Vl):v=mk v.kind v.n v.s v.keys v.list:=by cases v;rfl
theorem lt(v:Vl){x:Vl}(h:x∈v.list):SizeOf.sizeOf x<SizeOf.sizeOf v:=by
 cases v with
 | mk k n s keys l=>
  have:=List.sizeOf_lt_of_mem (show x∈l from h);simp only[mk.sizeOf_spec];omega
theorem ind{P:Vl→Prop}(h:∀v,(∀x∈v.list,P x)→P v):∀v,P v:=by
 have key:∀(m:Nat) (v:Vl),SizeOf.sizeOf v≤m→P v:=by
  intro m
  induction m with
  | zero=>
   intro v hv;(refine h v fun x hx=>?_);have:=v.lt hx
   omega
  | succ m ih=>
   intro v hv;(refine h v fun x hx=>ih x ?_);have:=v.lt hx;omega
 exact fun v=>key _ v (q8 _)
end Vl
def vl0:Vl:=.mk 0 0 [] [] []
instance : Inhabited Vl := ⟨vl0⟩
def xJ:Nat→Vl→Bool
 | 0,_=>true
 | m+1,v=>v.list.any (xJ m)
mutual
def cntV:Vl→Int→Int
 | .mk _ _ _ _ l,m=>cntL l (m-1)
def cntL:List Vl→Int→Int
 | [],m=>m
 | x::l,m=>if m<0 then m else cntL l (cntV x m)
end
theorem ZE(v:Vl)(m:Int):cntV v m=cntL v.list (m-1):=by cases v;rw[cntV];rfl
theorem YS(l:List Vl){m:Int}(h:m<0):cntL l m=m:=by
 cases l with
 | nil=>rw[cntL]
 | cons x l=>rw[cntL,if_pos h]
theorem YT(x:Vl)(l:List Vl){m:Int}(h:¬m<0):cntL (x::l) m=cntL l (cntV x m):=by rw[cntL,if_neg h]
mutual
theorem jF:∀(v:Vl) (m:Int),cntV v m≤m-1
 | .mk _ _ _ _ l,m=>by rw[cntV];exact vC l (m-1)
theorem vC:∀(l:List Vl) (m:Int),cntL l m≤m
 | [],m=>by rw[cntL];omega
 | x::l,m=>by
  rw[cntL];split
  ·omega
  have h1:=jF x m;have h2:=vC l (cntV x m);omega
end
mutual
theorem Qn:∀(v:Vl) (m:Int), -1≤m→(0≤m→ -1≤cntV v m)
 | .mk _ _ _ _ l,m,h,h0=>by rw[cntV];exact KZ l (m-1) Wq
theorem KZ:∀(l:List Vl) (m:Int), -1≤m→ -1≤cntL l m
 | [],m,h=>by rw[cntL];omega
 | x::l,m,h=>by
  rw[cntL];split
  ·omega
  exact KZ l _ (Qn x m h Wq)
end
def xC(l:List (List UInt8))(plain:List UInt8→Bool):Bool:=l.all (fun k=>decide (1≤k.length)&&decide (k.length≤255)&&plain k)&&decide l.Nodup
mutual
def mayV(plain:List UInt8→Bool):Vl→Bool
 | .mk k n s keys l=>
  (decide (k=168)||keys.isEmpty)&&(decide (k=168)||decide (k=169)||l.isEmpty)&&(decide (k=149)||decide (k=160)||s.isEmpty)&&decide (s.length≤4096)&&
  (if k=8 then decide (n≤1)else if k=2 then decide (n≤255)else if k=49∨k=50 then true
   else if k=240∨k=160 then decide (n=0)
   else if k=149 then plain s&&decide (n=0)
   else if k=168 then decide (keys.length=l.length)&&xC keys plain&&decide (n=0)
   else if k=169 then decide (n=0)else false)&&mayL plain l
def mayL(plain:List UInt8→Bool):List Vl→Bool
 | []=>true
 | x::l=>mayV plain x&&mayL plain l
end
theorem zaZ(plain:List UInt8→Bool)(l:List Vl):mayL plain l=l.all (mayV plain):=by
 induction l with
 | nil=>rw[mayL];rfl
 | cons x l ih=>rw[mayL,ih];rfl
mutual
def yJ:Vl→Vl→Bool
 | .mk k n s keys l,v=>decide (k=v.kind)&&decide (n=v.n)&&decide (s=v.s)&&decide (keys=v.keys)&&xu l v.list
def xu:List Vl→List Vl→Bool
 | [],[]=>true
 | x::l,y::m=>yJ x y&&xu l m
 | _,_=>false
end
mutual
theorem jY:∀(v u:Vl),yJ v u=true↔v=u
 | .mk k n s keys l,.mk k' n' s' keys' l'=>by
  rw[yJ];simp only[Vl.kind,Vl.n,Vl.s,Vl.keys,Vl.list,Bool.and_eq_true,Xs l l',Vl.mk.injEq];constructor
  ·rintro⟨⟨⟨⟨a,b⟩,c⟩,d⟩,e⟩;exact⟨of_decide_eq_true a,of_decide_eq_true b,of_decide_eq_true c,of_decide_eq_true d,e⟩
  rintro⟨a,b,c,d,e⟩;exact⟨⟨⟨⟨decide_eq_true a,decide_eq_true b⟩,decide_eq_true c⟩,decide_eq_true d⟩,e⟩
theorem Xs:∀(l m:List Vl),xu l m=true↔l=m
 | [],[]=>by simp[xu]
 | [],y::m=>by simp[xu]
 | x::l,[]=>by simp[xu]
 | x::l,y::m=>by
  rw[xu,Bool.and_eq_true,jY x y,Xs l m,List.cons.injEq]
end
instance : DecidableEq Vl := fun v u => if h : yJ v u = true then isTrue ((jY v u).1 h) else isFalse fun e => h ((jY v u).2 e)
end Go.PH
end
section
namespace Go.PH
open Go.RowKit
structure VH where
 A1:Option Addr
 c1:Nat
 A2:Option Addr
 c2:Nat
def txV(s:List UInt8):Value:=.string (str s)
def vlC(p:Vl×VH):List Value:=[.int .u8 (p.1.kind:Int),.int .u64 (p.1.n:Int),.string (str p.1.s),.slice p.2.A1 p.1.keys.length p.2.c1,.slice p.2.A2 p.1.list.length p.2.c2]
def vlV(v:Vl)(h:VH):Array Value:=#[.int .u8 (v.kind:Int),.int .u64 (v.n:Int),.string (str v.s),.slice h.A1 v.keys.length h.c1,.slice h.A2 v.list.length h.c2]
theorem vlShape:RecShape vlC 5 where
 len _:=rfl
 one a u hu:=by simp[vlC]at hu;rcases hu with rfl|rfl|rfl|rfl|rfl<;>rfl
 pos:=by omega
def RdX(w:World)(F:Nat→Prop)(size:Nat)(A:Option Addr)(n c:Nat)(xs:List Value):Prop:=Rd w w.heap.size size A n c xs∧(0<n→∀g,blk A=some g→F g)
theorem KY{w w':World}{p:Addr}(h:w'.heap[p.block]?=w.heap[p.block]?):w'.cell? p=w.cell? p:=by
 unfold World.cell?;rw[h]
theorem RdX.keep{w w':World}{F:Nat→Prop}{size n c:Nat}{A:Option Addr}{xs:List Value}(h:RdX w F size A n c xs)(hk:∀g,F g→w'.heap[g]?=w.heap[g]?)(hs:w.heap.size≤w'.heap.size):RdX w' F size A n c xs:=by
 obtain⟨h1,h2⟩:=h;refine⟨⟨h1.len,h1.cap,h1.max,fun hn=>?_⟩,h2⟩;obtain⟨b,off,e,hb,hc⟩:=h1.at_ hn;subst e;exact⟨b,off,rfl,q5 hb hs,fun j u hu=>(KY (hk b (h2 hn b rfl))).trans (hc j u hu)⟩
theorem RdX.mono{w:World}{F G:Nat→Prop}{size n c:Nat}{A:Option Addr}{xs:List Value}(h:RdX w F size A n c xs)(hF:∀g,F g→G g):RdX w G size A n c xs:=⟨h.1,fun hn g hg=>hF g (h.2 hn g hg)⟩
theorem RdX.nil(w:World)(F:Nat→Prop)(size c:Nat)(A:Option Addr)(hc:c≤maxLen):RdX w F size A 0 c []:=⟨Rd.nil _ _ _ _ hc _,fun h=>absurd h (Nat.lt_irrefl 0)⟩
theorem RdX.of_own{w:World}{F:Nat→Prop}{base e size n c:Nat}{A:Option Addr}{xs:List Value}(h:Own w base e size A n c xs)(hF:∀g,blk A=some g→F g):RdX w F size A n c xs:=⟨Rd.of_own h,fun _=>hF⟩
inductive RV (w:World) (F:Nat→Prop):Vl→VH→Prop
 | mk {v:Vl} {h:VH} (xs:List (Vl×VH)) (hk:v.kind<256) (hn:v.n<18446744073709551616) (hs:v.s.length≤140737488351232) (hK:RdX w F 1 h.A1 v.keys.length h.c1 (v.keys.map txV)) (bK:∀k∈v.keys,k.length≤140737488351232)
   (h1:v.keys.length≤140737488351232) (h2:v.list.length≤140737488351232) (hL:RdX w F 5 h.A2 v.list.length h.c2 (rowC vlC xs)) (hx:xs.map (·.1)=v.list) (hE:∀p∈xs,RV w F p.1 p.2):RV w F v h
theorem RV.keep{w w':World}{F:Nat→Prop}{v:Vl}{h:VH}(hv:RV w F v h)(hk:∀g,F g→w'.heap[g]?=w.heap[g]?)(hs:w.heap.size≤w'.heap.size):RV w' F v h:=by
 induction hv with
 | mk xs a1 a2 a3 a4 a5 a6 a7 a8 a9 _ ih=>exact⟨xs,a1,a2,a3,a4.keep hk hs,a5,a6,a7,a8.keep hk hs,a9,ih⟩
theorem RV.mono{w:World}{F G:Nat→Prop}{v:Vl}{h:VH}(hv:RV w F v h)(hF:∀g,F g→G g):RV w G v h:=by
 induction hv with
 | mk xs a1 a2 a3 a4 a5 a6 a7 a8 a9 _ ih=>exact⟨xs,a1,a2,a3,a4.mono hF,a5,a6,a7,a8.mono hF,a9,ih⟩
theorem RV.under{w w':World}{B:Nat}{v:Vl}{h:VH}(hv:RV w (fun g=>g<B) v h)(hB:Below B w w')(_hs:B≤w.heap.size):RV w' (fun g=>g<B) v h:=hv.keep (fun g hg=>hB.block g hg) hB.size
theorem RV.zero(w:World)(F:Nat→Prop):RV w F vl0 ⟨none,0,none,0⟩:=
 ⟨[],by decide,by decide,by simp[vl0,Vl.s],RdX.nil _ _ _ _ _ WX,fun k hk=>(by cases hk),by simp[vl0,Vl.keys],by simp[vl0,Vl.list],RdX.nil _ _ _ _ _ WX,rfl,fun p hp=>by cases hp⟩
theorem RV.parts{w:World}{F:Nat→Prop}{v:Vl}{h:VH}(hv:RV w F v h):∃xs:List (Vl×VH),xs.map (·.1)=v.list∧RdX w F 5 h.A2 v.list.length h.c2 (rowC vlC xs)∧(∀p∈xs,RV w F p.1 p.2)∧RdX w F 1 h.A1 v.keys.length h.c1 (v.keys.map txV):=by
 cases hv with
 | mk xs a1 a2 a3 a4 a5 a6 a7 a8 a9 a10=>exact⟨xs,a9,a8,a10,a4⟩
theorem RV.bounds{w:World}{F:Nat→Prop}{v:Vl}{h:VH}(hv:RV w F v h):v.kind<256∧v.n<18446744073709551616∧v.s.length≤140737488351232∧(∀k∈v.keys,k.length≤140737488351232)∧v.keys.length≤140737488351232∧v.list.length≤140737488351232:=by
 cases hv with
 | mk xs a1 a2 a3 a4 a5 a6 a7 a8 a9 a10=>exact⟨a1,a2,a3,a5,a6,a7⟩
abbrev RVw(w:World)(v:Vl)(h:VH):Prop:=RV w (fun g=>g<w.heap.size) v h
theorem RV.up{w w':World}{v:Vl}{h:VH}(hv:RVw w v h)(hB:Below w.heap.size w w'):RVw w' v h:=(hv.keep (fun g hg=>hB.block g hg) hB.size).mono (fun g hg=>q5 hg hB.size)
theorem RV.elem{w:World}{v:Vl}{h:VH}(hv:RVw w v h){i:Nat}(hi:i<v.list.length):∃b off hx,h.A2=some ⟨b,off,none⟩∧RVw w v.list[i] hx∧∀W,Below w.heap.size w W→
  W.cell? ⟨b,off+i*5,none⟩=some (.int .u8 (v.list[i].kind:Int))∧W.cell? ⟨b,off+i*5+1,none⟩=some (.int .u64 (v.list[i].n:Int))∧W.cell? ⟨b,off+i*5+2,none⟩=some (.string (str v.list[i].s))∧
  W.cell? ⟨b,off+i*5+3,none⟩=some (.slice hx.A1 v.list[i].keys.length hx.c1)∧W.cell? ⟨b,off+i*5+4,none⟩=some (.slice hx.A2 v.list[i].list.length hx.c2):=by
 obtain⟨xs,e,h1,h2,_⟩:=hv.parts;obtain⟨b,off,hA,hb,hl,hc⟩:=qm vlShape h1.1 hi;have hm:xs[i]∈xs:=q6 hl
 have hx:xs[i].1=v.list[i]:=by
  have:(xs.map (·.1))[i]'zAg=v.list[i]:=by simp only[e]
  simpa using this
 refine⟨b,off,xs[i].2,hA,hx▸h2 _ hm,fun W hW=>?_⟩;rw[←hx];exact⟨(hW.cell hb).trans (hc 0 _ rfl),(hW.cell hb).trans (hc 1 _ rfl),(hW.cell hb).trans (hc 2 _ rfl),(hW.cell hb).trans (hc 3 _ rfl),(hW.cell hb).trans (hc 4 _ rfl)⟩
theorem RV.key{w:World}{v:Vl}{h:VH}(hv:RVw w v h){i:Nat}(hi:i<v.keys.length):∃b off,h.A1=some ⟨b,off,none⟩∧∀W,Below w.heap.size w W→W.cell? ⟨b,off+i,none⟩=some (.string (str v.keys[i])):=by
 obtain⟨xs,_,_,_,h1⟩:=hv.parts;obtain⟨b,off,u,e,hb,hu,hc⟩:=h1.1.at_k hi;refine⟨b,off,e,fun W hW=>?_⟩;rw[z9,yB hi]at hu;injection hu with hu
 rw[hW.cell (p:=⟨b,off+i,none⟩) hb,hc,←hu];rfl
theorem zg(w:World)(cs:Array Value)(t:TypeId):∃(b:Nat) (v:World),b=w.heap.size∧v=w.alloc (.cells cs t)∧Box v b t cs∧Below w.heap.size w v:=
 ⟨_,_,rfl,rfl,Box.new w cs t,(VB _ _).alloc (q8 _) _⟩
end Go.PH
end
namespace Go.PH
open Go.RowKit Go.Proofs Go.Proofs.Tryz
variable {base c g gb i j k n : Nat} {F : Nat → Prop} {A : Option Addr} {v : Value} {w w' : World}
def CntR(w:World)(v:Vl)(m:Int)(e:Ending)(w':World):Prop:=e= .returned (.int .i64 (cntV v m))∧Below w.heap.size w w'
theorem K7(v:Vl):∀(h:VH) (m:Int) (w:World),RVw w v h→0≤m→m≤1000000→Calls prog 148 #[.agg (vlV v h),.int .i64 m] w (CntR w v m):=by
 refine Vl.ind (P:=fun v=>∀(h:VH) (m:Int) (w:World),RVw w v h→0≤m→m≤1000000→Calls prog 148 #[.agg (vlV v h),.int .i64 m] w (CntR w v m)) ?_ v;intro v ih h m w hv sL gG;obtain⟨K1,j1,K2,j2⟩:=h;unfold vlV;have BF:=fun{i:Nat} (hi:i<v.list.length)=>hv.elem hi
 simp only at BF ⊢;obtain⟨N,hN⟩:∃N,N=v.list.length:=⟨_,rfl⟩
 have GJ:N≤140737488351232:=by rw[hN];exact hv.bounds.2.2.2.2.2
 have HV:=Q2 hv;have HE:Hid (cntV v m=cntL v.list (m-1)):=Q2 (ZE v m);unfold CntR;rw[HE.out];rw[←hN];have HN:=Q2 hN;clear hN hv;have IH:=Q2 ih;clear ih;obtain⟨xb,w1,bC,bh,hX,Ha⟩:=zg w #[.int .u8 (v.kind:Int),.int .u64 (v.n:Int),.string (str v.s),.slice K1 v.keys.length j1,.slice K2 N j2] 78;have c4:=hX.c4;go_enter func148,ntmps148;go_upto_region 1 with fail;rw[←bC,←bh];clear bC bh;go_wp2_with(with_reducible refine h_A ?_);go_loopw [1,12] (fun s1 SR wr=>∃(i:Nat) (q:Int),i≤N∧SR= .int .i64 i∧s1= .int .i64 q∧ -1≤q∧q≤1000000∧Hid (cntL (v.list.drop i) q=cntL v.list (m-1))∧Below w.heap.size w wr) (fun _ SR _=>N-(KS SR).toNat)
 case atStart=>exact⟨0,m-1,by omega,rfl,by first|rfl|go_num,by omega,by omega,Q2 rfl,Ha⟩
 obtain⟨i,q,hi,rfl,rfl,nV,eQ,HC,hB⟩:=hrel;clear c4 hX;by_cases hlt:i<N
 ·have g1:(i:Int)<(N:Int):=by omega
  have BE:i<v.list.length:=by rw[←HN.out];exact hlt
  obtain⟨b,off,hx,rfl,ep,HX⟩:=BF BE;obtain⟨k0,k1,k2,k3,k4⟩:=HX wr hB;have HD:Hid (cntL (v.list.drop i) q=if q<0 then q else cntL (v.list.drop (i+1)) (cntV v.list[i] q)):=Q2 (by rw[Vx BE,cntL]);have hm:v.list[i]∈v.list:=q6 BE;have bP:=fun(W:World) (hW:Below w.heap.size w W) (h0:0≤q)=>IH.out _ hm hx q W (ep.up hW) h0 eQ
  clear HX BF ep hm;have bD:=fun h0=>Qn v.list[i] q nV h0
  have U0:=jF v.list[i] q;generalize v.list[i]=x at*;by_cases CC:q<0
  ·have qq9u:=();exact Z1z_
  exact Z1z_
 have HQ:Hid (q=cntL v.list (m-1)):=Q2 (by rw[←HC.out,q9 MX,cntL]);have g1:¬(i:Int)<(N:Int):=by omega
 clear BF;exact Z6s_
theorem za5(p:Vl→Bool)(bx:Nat)(v:Vl)(h:VH)(w:World)(hv:RVw w v h)(bD:∀x∈v.list,∀hx W,Below w.heap.size w W→RVw W x hx→Calls prog 172 (#[.agg (vlV x hx)]++ #[.pointer (some ⟨bx,0,none⟩)]) W (fun e W'=>e= .returned (.bool (p x))∧Below W.heap.size W W')):
  Calls prog 183 #[.slice h.A2 v.list.length h.c2,.func (.func 172) #[] #[.pointer (some ⟨bx,0,none⟩)]] w fun e w'=>(∃r:Int,e= .returned (.int .i64 r)∧decide (0≤r)=v.list.any p)∧Below w.heap.size w w':=by
 exact Z14_
theorem za6(p:Vl→Bool)(bx:Nat)(v:Vl)(h:VH)(w:World)(hv:RVw w v h)(bD:∀x∈v.list,∀hx W,Below w.heap.size w W→RVw W x hx→Calls prog 172 (#[.agg (vlV x hx)]++ #[.pointer (some ⟨bx,0,none⟩)]) W (fun e W'=>e= .returned (.bool (p x))∧Below W.heap.size W W')):
  Calls prog 171 #[.slice h.A2 v.list.length h.c2,.func (.func 172) #[] #[.pointer (some ⟨bx,0,none⟩)]] w fun e w'=>e= .returned (.bool (v.list.any p))∧Below w.heap.size w w':=by
 have qqdq:=();exact Z37_
def Qv(w:World)(v:Vl)(m:Nat)(e:Ending)(w':World):Prop:=e= .returned (.bool (xJ m v))∧Below w.heap.size w w'
theorem Vd(x:Vl)(hx:VH)(m bx:Nat)(W:World)(hb:W.cell? ⟨bx,0,none⟩=some (.int .i64 ((m+1:Nat):Int)))(hv:RVw W x hx)(hm:m≤1000)(bP:∀W',Below W.heap.size W W'→Calls prog 147 #[.agg (vlV x hx),.int .i64 (m:Int)] W' (Qv W' x m)):
  Calls prog 172 #[.agg (vlV x hx),.pointer (some ⟨bx,0,none⟩)] W (Qv W x m):=by
 exact Z1u_
theorem JV(m:Nat)(v:Vl):xJ (m+1) v=v.list.any (xJ m):=rfl
theorem za7(v:Vl):∀(h:VH) (m:Nat) (w:World),RVw w v h→m≤1000→Calls prog 147 #[.agg (vlV v h),.int .i64 (m:Int)] w (Qv w v m):=by
 refine Vl.ind (P:=fun v=>∀(h:VH) (m:Nat) (w:World),RVw w v h→m≤1000→Calls prog 147 #[.agg (vlV v h),.int .i64 (m:Int)] w (Qv w v m)) ?_ v;intro v ih h m w hv hm;unfold vlV;obtain⟨q,hq⟩:∃q:Int,q=(m:Int):=⟨_,rfl⟩
 rw[←hq];obtain⟨xb,w1,bC,bh,hX,Ha⟩:=zg w #[.int .u8 (v.kind:Int),.int .u64 (v.n:Int),.string (str v.s),.slice h.A1 v.keys.length h.c1,.slice h.A2 v.list.length h.c2] 78;obtain⟨yb,w2,iD,dE,hY,Hc⟩:=zg w1 #[.int .i64 q] 3;have BU:xb+1=yb:=by rw[iD,bh,bC];simp
 clear iD;have hB:=Ha.trans (Hc.mono Ha.size);have Hk:=hX.below Hc;have c4:=Hk.c4;have y0:=hY.c0;have fj:=hv.up hB;unfold Qv
 cases m with
 | zero=>
  have hd:xJ 0 v=true:=rfl;rw[hd];have hz:(q==0)=true:=by rw[hq];rfl
  clear hq ih;go_enter func147,ntmps147;go_upto_region 1 with fail;rw[←bC,←bh,BU,←dE];clear bC bh BU dE;go_wp2_with(with_reducible refine h_A ?_);go_ret
  exact⟨rfl,hB⟩
 | succ m=>
  have lW:=za6 (xJ m) yb v h w2 fj (fun x hx pp W hW ep=>by
   refine Vd x pp m yb W ?_ ep Wq (fun W' Gt=>ih x hx pp m W' (ep.up Gt) Wq);rw[hW.cell (p:=⟨yb,0,none⟩) hY.lt,←hq]
   exact y0)
  rw[JV];generalize v.list.any (xJ m)=r at*;have hz:(q==0)=false:=by simp;omega
  clear ih hq;go_enter func147,ntmps147;go_upto_region 1 with fail;rw[←bC,←bh,BU,←dE];clear bC bh BU dE;have Cp:∀(fn:Fn) (first cap:Array Value) (w:World),(Instr.makeFunc fn first cap).run prog w= .ok (.func fn first cap) w:=fun _ _ _ _=>rfl
  go_wp2_with(with_reducible refine h_A ?_);refine lW.mono ?_;rintro e w3 ⟨rfl,Hh⟩;go_wp2_with(with_reducible refine h_A ?_);go_ret;exact⟨rfl,hB.trans (Hh.mono hB.size)⟩
end Go.PH
section
namespace Go.PH
mutual
def vlB:Vl→List UInt8
 | .mk k n s keys l=>UInt8.ofNat k::(if k=8∨k=2 then be 1 n else if k=50∨k=49 then be 8 n else if k=149 then be 2 s.length++s else if k=160 then be 4 s.length++s
   else if k=168∨k=169 then be 4 (be 4 l.length++yy (decide (k=168)) keys l).length++(be 4 l.length++yy (decide (k=168)) keys l)else [])
def yy(m:Bool):List (List UInt8)→List Vl→List UInt8
 | _,[]=>[]
 | ks,x::l=>(if m then be 1 (ks.headD []).length++ks.headD []else [])++vlB x++yy m ks.tail l
end
def yu(k n:Nat)(s inn:List UInt8):List UInt8:=if k=8∨k=2 then be 1 n else if k=50∨k=49 then be 8 n else if k=149 then be 2 s.length++s else if k=160 then be 4 s.length++s
   else if k=168∨k=169 then be 4 inn.length++inn else []
def innB(v:Vl):List UInt8:=be 4 v.list.length++yy (decide (v.kind=168)) v.keys v.list
theorem Yn(v:Vl):vlB v=UInt8.ofNat v.kind::yu v.kind v.n v.s (innB v):=by
 cases v;rw[vlB];rfl
theorem xX(m:Bool)(ks:List (List UInt8)):yy m ks []=[]:=by rw[yy]
theorem qk(m:Bool)(ks:List (List UInt8))(x:Vl)(l:List Vl):yy m ks (x::l)=(if m then be 1 (ks.headD []).length++ks.headD []else [])++vlB x++yy m ks.tail l:=by rw[yy]
theorem XA{v:Vl}{i:Nat}(hi:i<v.list.length)(hk:i<v.keys.length):yy true (v.keys.drop i) (v.list.drop i)=((be 1 v.keys[i].length++v.keys[i])++vlB v.list[i])++yy true (v.keys.drop (i+1)) (v.list.drop (i+1)):=by
 rw[Vx hi,qk,Vx hk];simp only[List.headD_cons,List.tail_cons,if_true,List.append_assoc]
theorem Yo{v:Vl}{i:Nat}(hi:i<v.list.length)(ks ks':List (List UInt8)):yy false ks (v.list.drop i)=vlB v.list[i]++yy false ks' (v.list.drop (i+1)):=by
 have key:∀(l:List Vl) (a b:List (List UInt8)),yy false a l=yy false b l:=by
  intro l
  induction l with
  | nil=>intro a b;rw[xX,xX]
  | cons x l ih=>intro a b;rw[qk,qk,ih a.tail b.tail];simp
 rw[Vx hi,qk,key _ ks.tail ks'];simp
end Go.PH
end
namespace Go.PH
open Go.RowKit Go.Proofs Go.Proofs.Tryz
variable {base c g gb i j k n : Nat} {F : Nat → Prop} {A : Option Addr} {v : Value} {w w' : World}
theorem Vu(v:Vl):∀(h:VH) (m:Int) (w:World),RVw w v h→0≤m→m≤1000000→Calls prog 144 #[.agg (vlV v h),.int .i64 m] w (CntR w v m):=by
 refine Vl.ind (P:=fun v=>∀(h:VH) (m:Int) (w:World),RVw w v h→0≤m→m≤1000000→Calls prog 144 #[.agg (vlV v h),.int .i64 m] w (CntR w v m)) ?_ v;intro v ih h m w hv sL gG;obtain⟨K1,j1,K2,j2⟩:=h;unfold vlV;have BF:=fun{i:Nat} (hi:i<v.list.length)=>hv.elem hi
 simp only at BF ⊢;obtain⟨N,hN⟩:∃N,N=v.list.length:=⟨_,rfl⟩
 have GJ:N≤140737488351232:=by rw[hN];exact hv.bounds.2.2.2.2.2
 rw[←hN];have HN:=Q2 hN;clear hN hv;have IH:=Q2 ih;clear ih;obtain⟨xb,w1,bC,bh,hX,Ha⟩:=zg w #[.int .u8 (v.kind:Int),.int .u64 (v.n:Int),.string (str v.s),.slice K1 v.keys.length j1,.slice K2 N j2] 78;have c4:=hX.c4;have HE:Hid (cntV v m=cntL v.list (m-1)):=Q2 (ZE v m);unfold CntR;rw[HE.out];go_enter func144,ntmps144;go_upto_region 1 with fail;rw[←bC,←bh];clear bC bh;go_wp2_with(with_reducible refine h_A ?_);go_loopw [1,5] (fun s1 s5 wr=>∃(i:Nat) (q:Int),i≤N∧s5= .int .i64 i∧s1= .int .i64 q∧ -1≤q∧q≤1000000∧Hid (cntL (v.list.drop i) q=cntL v.list (m-1))∧Box wr xb 78 #[.int .u8 (v.kind:Int),.int .u64 (v.n:Int),.string (str v.s),.slice K1 v.keys.length j1,.slice K2 N j2]∧Below w.heap.size w wr) (fun _ s5 _=>N-(KS s5).toNat)
 case atStart=>exact⟨0,m-1,by omega,rfl,by first|rfl|go_num,by omega,by omega,Q2 rfl,hX,Ha⟩
 clear c4 hX;obtain⟨i,q,hi,rfl,rfl,nV,eQ,HC,hX,hB⟩:=hrel;have c4:=hX.c4;by_cases hlt:i<N∧0≤q
 ·obtain⟨hlt,CC⟩:=hlt;have g1:(i:Int)<(N:Int):=by omega
  have BE:i<v.list.length:=by rw[←HN.out];exact hlt
  obtain⟨b,off,hx,rfl,ep,HX⟩:=BF BE;obtain⟨k0,k1,k2,k3,k4⟩:=HX wr hB;have HD:Hid (cntL (v.list.drop i) q=cntL (v.list.drop (i+1)) (cntV v.list[i] q)):=Q2 (by rw[Vx BE,cntL,if_neg Wq]);have hm:v.list[i]∈v.list:=q6 BE;have h1:=IH.out _ hm hx q wr (ep.up hB) CC eQ;clear HX BF ep hm;have bD:=Qn v.list[i] q nV CC;have U0:=jF v.list[i] q;generalize v.list[i]=x at*;have cM:Hid (cntL (v.list.drop (i+1)) (cntV x q)=cntL v.list (m-1)):=Q2 (by rw[←HC.out,HD.out]);unfold vlV at h1;go_wp2_with(with_reducible refine h_A ?_);refine h1.mono ?_;rintro e w3 ⟨rfl,Hh⟩;have nD:=hB.trans (Hh.mono hB.size);clear h1 k0 k1 k2 k3 k4 c4;go_wp2_with(with_reducible refine h_A ?_);exact⟨⟨i+1,cntV x q,by omega,by go_num,rfl,by omega,by omega,cM,hX.below Hh,nD⟩,by simp[KS];omega⟩
 have HQ:Hid (q=cntL v.list (m-1)):=Q2 (by
  rw[←HC.out];by_cases h0:q<0
  ·rw[YS _ h0]
  ·rw[q9 MX,cntL])
 clear BF;by_cases h2:i<N
 ·have g1:(i:Int)<(N:Int):=by omega
  have g2:¬0≤q:=by omega
  exact Z6a_
 have g1:¬(i:Int)<(N:Int):=by omega
 exact Z6a_
def DeepR'(w:World)(v:Vl)(m:Nat)(e:Ending)(w':World):Prop:=e= .returned (.bool (xJ m v))∧Below w.heap.size w w'
theorem Vv(v:Vl):∀(h:VH) (m:Nat) (w:World),RVw w v h→m≤1000→True→Calls prog 143 #[.agg (vlV v h),.int .i64 (m:Int)] w (DeepR' w v m):=by
 refine Vl.ind (P:=fun v=>∀(h:VH) (m:Nat) (w:World),RVw w v h→m≤1000→True→Calls prog 143 #[.agg (vlV v h),.int .i64 (m:Int)] w (DeepR' w v m)) ?_ v;intro v ih h m w hv sL gG;obtain⟨K1,j1,K2,j2⟩:=h;unfold vlV;have BF:=fun{i:Nat} (hi:i<v.list.length)=>hv.elem hi
 simp only at BF ⊢;obtain⟨N,hN⟩:∃N,N=v.list.length:=⟨_,rfl⟩
 have GJ:N≤140737488351232:=by rw[hN];exact hv.bounds.2.2.2.2.2
 rw[←hN];have HN:=Q2 hN;clear hN hv;have IH:=Q2 ih;clear ih;obtain⟨xb,w1,bC,bh,hX,Ha⟩:=zg w #[.int .u8 (v.kind:Int),.int .u64 (v.n:Int),.string (str v.s),.slice K1 v.keys.length j1,.slice K2 N j2] 78;have c4:=hX.c4;unfold DeepR';obtain⟨q,hq⟩:∃q:Int,q=(m:Int):=⟨_,rfl⟩
 rw[←hq]
 cases m with
 | zero=>
  have hd:xJ 0 v=true:=rfl;rw[hd];have hz:(q==0)=true:=by rw[hq];rfl
  clear hq BF;go_enter func143,ntmps143;go_upto_region 1 with fail;rw[←bC,←bh];clear bC bh;go_wp2_with(with_reducible refine h_A ?_);go_ret
  exact⟨rfl,Ha⟩
 | succ m=>
  have HE:Hid (xJ (m+1) v=v.list.any (xJ m)):=Q2 rfl;rw[HE.out];have hz:(q==0)=false:=by simp;omega
  have hw:IntKind.i64.wrap (q-1)=(m:Int):=by rw[IntWalk.i64_in _ ⟨by omega,by omega⟩];omega
  have oo:q-1=(m:Int):=by omega
  have FV:0<q:=by omega
  have tn:q≤1001:=by omega
  clear hq;go_enter func143,ntmps143;go_upto_region 1 with fail;rw[←bC,←bh];clear bC bh;go_wp2_with(with_reducible refine h_A ?_);go_loopw [5] (fun s5 wr=>∃(i:Nat),i≤N∧s5= .int .i64 i∧Hid ((v.list.drop i).any (xJ m)=v.list.any (xJ m))∧Box wr xb 78 #[.int .u8 (v.kind:Int),.int .u64 (v.n:Int),.string (str v.s),.slice K1 v.keys.length j1,.slice K2 N j2]∧Below w.heap.size w wr) (fun s5 _=>N-(KS s5).toNat)
  case atStart=>exact⟨0,by omega,rfl,Q2 rfl,hX,Ha⟩
  clear c4 hX;obtain⟨i,hi,rfl,HC,hX,hB⟩:=hrel;have c4:=hX.c4;by_cases hlt:i<N
  ·(have g1:(i:Int)<(N:Int):=by omega);(have BE:i<v.list.length:=by rw[←HN.out];exact hlt);obtain⟨b,off,hx,rfl,ep,HX⟩:=BF BE;obtain⟨k0,k1,k2,k3,k4⟩:=HX wr hB;have HD:Hid ((v.list.drop i).any (xJ m)=(xJ m v.list[i]||(v.list.drop (i+1)).any (xJ m))):=Q2 (by rw[Vx BE,yA]);have h1:=IH.out _ (q6 BE) hx m wr (ep.up hB) Wq trivial;clear HX BF ep;generalize v.list[i]=x at*;unfold vlV DeepR' at h1
   cases hp:xJ m x
   ·exact Z2r_
   have qqcf:=();exact Z2r_
  have HQ:Hid (v.list.any (xJ m)=false):=Q2 (by rw[←HC.out,q9 MX];rfl);have g1:¬(i:Int)<(N:Int):=by omega
  clear BF;go_wp2_with(with_reducible refine h_A ?_);go_ret;rw[HQ.out];exact⟨rfl,hB⟩
theorem qs(v u:Vl):yJ v u=(decide (v.kind=u.kind)&&decide (v.n=u.n)&&decide (v.s=u.s)&&decide (v.keys=u.keys)&&xu v.list u.list):=by
 cases v;rw[yJ];rfl
theorem jZ(a b:List UInt8):((str a).toList==(str b).toList)=decide (a=b):=by
 rw[zn,zn];by_cases h:a=b
 ·subst h;simp
 simp[h]
theorem jH{B:Nat}{L:List (List UInt8)}(hr:Rd w B 1 A n c (L.map txV))(hk:k<n)(bK:k<L.length):∃b off,A=some ⟨b,off,none⟩∧∀W,Below B w W→W.cell? ⟨b,off+k,none⟩=some (.string (str L[k])):=by
 obtain⟨b,off,u,hA,hb,hu,eC⟩:=hr.at_k (k:=k) hk;refine⟨b,off,hA,fun W hW=>?_⟩;rw[z9,yB bK]at hu;injection hu with hu
 rw[hW.cell (p:=⟨b,off+k,none⟩) hb,eC,←hu];rfl
theorem K4(A:Option Addr)(n c:Nat)(K:List (List UInt8))(A':Option Addr)(n' c':Nat)(K':List (List UInt8))(w:World)(hr:Rd w w.heap.size 1 A n c (K.map txV))(oc:Rd w w.heap.size 1 A' n' c' (K'.map txV))(hn:n≤140737488351232)(Ff:n'≤140737488351232):
  Calls prog 150 #[.slice A n c,.slice A' n' c'] w fun e w'=>e= .returned (.bool (decide (K=K')))∧Below w.heap.size w w':=by
 have hl:K.length=n:=by have:=hr.len;simpa using this
 have lf:K'.length=n':=by have:=oc.len;simpa using this
 have HL:=Q2 hl;have O5:=Q2 lf;clear hl lf;by_cases dg:n=n'
 ·subst dg;have g0:((n:Int)!=(n:Int))=false:=by simp
  go_enter func150,ntmps150;go_wp2_with(with_reducible refine h_A ?_);clear g0;go_loopw [13] (fun s wr=>∃i:Nat,i≤n∧s= .int .i64 i∧Below w.heap.size w wr∧Hid (K.take i=K'.take i)) (fun s _=>n-(KS s).toNat)
  case atStart=>exact⟨0,by omega,rfl,VB _ _,Q2 Wz⟩
  obtain⟨i,hi,rfl,hB,HC⟩:=hrel;by_cases hlt:i<n
  ·(have g1:(i:Int)<(n:Int):=by omega);(have BE:i<K.length:=by rw[HL.out];exact hlt);(have iZ:i<K'.length:=by rw[O5.out];exact hlt);obtain⟨b,off,rfl,hC⟩:=jH hr hlt BE;obtain⟨b',off',rfl,wF⟩:=jH oc hlt iZ;have y0:=hC wr hB;have z0:=wF wr hB;have HT:Hid (K.take (i+1)=K.take i++ [K[i]]):=Q2 (Vy BE);have IM:Hid (K'.take (i+1)=K'.take i++ [K'[i]]):=Q2 (Vy iZ);have HX:Hid (∀e:K=K',K[i]=K'[i]):=Q2 (fun e=>by subst e;rfl);clear hC wF;generalize K[i]=a at*;generalize K'[i]=b2 at*;have Br:=jZ a b2;(have Bz:((str a).toList !=(str b2).toList)= !decide (a=b2):=by rw[bne,Br]);by_cases ez:a=b2
   ·(have g2:decide (a=b2)=true:=by simpa using ez);rw[g2]at Br Bz;have cM:Hid (K.take (i+1)=K'.take (i+1)):=Q2 (by rw[HT.out,IM.out,HC.out,ez]);subst ez;simp only[Bool.not_true]at Bz;go_wp2_with(with_reducible refine h_A ?_);go_quiet(fail);go_wp2_with(with_reducible refine h_A ?_);exact⟨⟨i+1,by omega,by go_num,za hB _,cM⟩,by simp[KS];omega⟩
   have qqda:=();exact Z31_
  have g1:¬(i:Int)<(n:Int):=by omega
  have HF:Hid (decide (K=K')=true):=Q2 (decide_eq_true (by
   have:=HC.out
   rwa[kI (by rw[HL.out];omega),kI (by rw[O5.out];omega)]at this))
  exact Z6j_
 have g0:((n:Int)!=(n':Int))=true:=by simp;omega
 have HF:Hid (decide (K=K')=false):=Q2 (decide_eq_false fun e=>dg (by rw[←HL.out,←O5.out,e]));clear dg;go_enter func150,ntmps150;exact Z69_
def jI(w:World)(v u:Vl)(e:Ending)(w':World):Prop:=e= .returned (.bool (yJ v u))∧Below w.heap.size w w'
theorem vE(x y:Vl)(l m:List Vl):xu (x::l) (y::m)=(yJ x y&&xu l m):=by rw[xu]
theorem ZG:∀{l m:List Vl},l.length≠m.length→xu l m=false
 | [],[],h=>absurd rfl h
 | [],_::_,_=>by simp[xu]
 | _::_,[],_=>by simp[xu]
 | x::l,y::m,h=>by rw[vE,ZG Nz];simp
theorem K5(v u:Vl)(h k:VH)(w:World)(hv:RVw w v h)(hu:RVw w u k)(ih:∀x∈v.list,∀(y:Vl) (hx hy:VH) (W:World),RVw W x hx→RVw W y hy→Calls prog 126 #[.agg (vlV x hx),.agg (vlV y hy)] W (jI W x y)):
  Calls prog 151 #[.slice h.A2 v.list.length h.c2,.slice k.A2 u.list.length k.c2,.func (.func 126) #[] #[]] w fun e w'=>e= .returned (.bool (xu v.list u.list))∧Below w.heap.size w w':=by
 obtain⟨K1,j1,K2,j2⟩:=h;obtain⟨M1,i1,M2,i2⟩:=k;have BF:=fun{i:Nat} (hi:i<v.list.length)=>hv.elem hi
 have dm:=fun{i:Nat} (hi:i<u.list.length)=>hu.elem hi
 simp only at BF dm ⊢;obtain⟨N,hN⟩:∃N,N=v.list.length:=⟨_,rfl⟩
 have GJ:N≤140737488351232:=by rw[hN];exact hv.bounds.2.2.2.2.2
 obtain⟨M,hM⟩:∃M,M=u.list.length:=⟨_,rfl⟩
 have hMm:M≤140737488351232:=by rw[hM];exact hu.bounds.2.2.2.2.2
 rw[←hN,←hM];have HN:=Q2 hN;have HM:=Q2 hM;have IH:=Q2 ih;clear hN hM hv hu ih;by_cases dg:N=M
 ·subst dg;have g0:((N:Int)!=(N:Int))=false:=by simp
  go_enter func151,ntmps151;go_wp2_with(with_reducible refine h_A ?_);clear g0;go_loopw [17] (fun s wr=>∃i:Nat,i≤N∧s= .int .i64 i∧Below w.heap.size w wr∧Hid (xu (v.list.drop i) (u.list.drop i)=xu v.list u.list)) (fun s _=>N-(KS s).toNat)
  case atStart=>exact⟨0,by omega,rfl,VB _ _,Q2 rfl⟩
  obtain⟨i,hi,rfl,hB,HC⟩:=hrel;by_cases hlt:i<N
  ·(have g1:(i:Int)<(N:Int):=by omega);(have BE:i<v.list.length:=by rw[←HN.out];exact hlt);(have iZ:i<u.list.length:=by rw[←HM.out];exact hlt);obtain⟨b,off,hx,rfl,ep,HX⟩:=BF BE;obtain⟨b',off',hy,rfl,Lv,HY⟩:=dm iZ;obtain⟨k0,k1,k2,k3,k4⟩:=HX wr hB;have HD:Hid (xu (v.list.drop i) (u.list.drop i)=(yJ v.list[i] u.list[i]&&xu (v.list.drop (i+1)) (u.list.drop (i+1)))):=Q2 (by rw[Vx BE,Vx iZ,vE]);(have bP:=fun(W:World) (hW:Below w.heap.size w W)=>IH.out _ (q6 BE) u.list[i] hx hy W (ep.up hW) (Lv.up hW));clear HX BF ep dm Lv;generalize v.list[i]=x at*;generalize u.list[i]=y at*;obtain⟨xb,w1,Hg,Hi,hX,Ha⟩:=zg wr #[.int .u8 (x.kind:Int),.int .u64 (x.n:Int),.string (str x.s),.slice hx.A1 x.keys.length hx.c1,.slice hx.A2 x.list.length hx.c2] 78;have iU:=hB.trans (Ha.mono hB.size);obtain⟨q0,q1,q2,q3,q4⟩:=HY w1 iU;obtain⟨yb,w2,iD,dE,hY,Hc⟩:=zg w1 #[.int .u8 (y.kind:Int),.int .u64 (y.n:Int),.string (str y.s),.slice hy.A1 y.keys.length hy.c1,.slice hy.A2 y.list.length hy.c2] 78;have nD:=iU.trans (Hc.mono iU.size);have h1:=bP w2 nD;have Hk:=hX.below Hc;clear bP HY hX;unfold vlV at h1;have c0:=Hk.c0;have c1:=Hk.c1;have c2:=Hk.c2;have c3:=Hk.c3;have c4:=Hk.c4;have d0:=hY.c0;have d1:=hY.c1;have d2:=hY.c2;have d3:=hY.c3;have d4:=hY.c4;go_upto_region 6 with fail;rw[←Hg,←Hi];clear Hg Hi k0 k1 k2 k3 k4;go_upto_region 7 with fail;rw[←iD,←dE];clear iD dE q0 q1 q2 q3 q4;unfold jI at h1
   cases hs:yJ x y
   ·have qqcl:=();exact Z2t_
   exact Z2t_
  have g1:¬(i:Int)<(N:Int):=by omega
  have HF:Hid (xu v.list u.list=true):=Q2 (by
   rw[←HC.out,q9 MX,q9 (by rw[←HM.out];omega),xu])
  clear BF dm;exact Z6j_
 have g0:((N:Int)!=(M:Int))=true:=by simp;omega
 have HF:Hid (xu v.list u.list=false):=Q2 (ZG (by rw[←HN.out,←HM.out];exact dg));clear dg BF dm;go_enter func151,ntmps151;exact Z69_
theorem K6(v:Vl):∀(u:Vl) (h k:VH) (w:World),RVw w v h→RVw w u k→Calls prog 126 #[.agg (vlV v h),.agg (vlV u k)] w (jI w v u):=by
 refine Vl.ind (P:=fun v=>∀(u:Vl) (h k:VH) (w:World),RVw w v h→RVw w u k→Calls prog 126 #[.agg (vlV v h),.agg (vlV u k)] w (jI w v u)) ?_ v;intro v ih u h k w hv hu;unfold vlV jI;obtain⟨xb,w1,Hg,Hi,hX,Ha⟩:=zg w #[.int .u8 (v.kind:Int),.int .u64 (v.n:Int),.string (str v.s),.slice h.A1 v.keys.length h.c1,.slice h.A2 v.list.length h.c2] 78;obtain⟨yb,w2,iD,dE,hY,Hc⟩:=zg w1 #[.int .u8 (u.kind:Int),.int .u64 (u.n:Int),.string (str u.s),.slice k.A1 u.keys.length k.c1,.slice k.A2 u.list.length k.c2] 78;have BU:xb+1=yb:=by rw[iD,Hi,Hg];simp
 have hB:=Ha.trans (Hc.mono Ha.size);have Hk:=hX.below Hc;have fj:=hv.up hB;have rj:=hu.up hB;have c0:=Hk.c0;have c1:=Hk.c1;have c2:=Hk.c2;have c3:=Hk.c3;have c4:=Hk.c4;have d0:=hY.c0;have d1:=hY.c1;have d2:=hY.c2;have d3:=hY.c3;have d4:=hY.c4;have bR:=jZ v.s u.s;obtain⟨xs,_,_,_,lT⟩:=fj.parts;obtain⟨ys,_,_,_,Ab⟩:=rj.parts;have mG:=K4 h.A1 v.keys.length h.c1 v.keys k.A1 u.keys.length k.c1 u.keys w2 lT.1 Ab.1 hv.bounds.2.2.2.2.1 hu.bounds.2.2.2.2.1;have G7:=fun(W:World) (hW:Below w2.heap.size w2 W)=>K5 v u h k W (fj.up hW) (rj.up hW) (fun x hx y=>ih x hx y)
 clear iD;by_cases hk:v.kind=u.kind
 ·have g1:((v.kind:Int)==(u.kind:Int))=true:=by simp[hk]
  by_cases hn:v.n=u.n
  ·(have g2:((v.n:Int)==(u.n:Int))=true:=by simp[hn]);by_cases hs:v.s=u.s
   ·(have g3:decide (v.s=u.s)=true:=by simpa using hs);rw[g3]at bR;clear g3;by_cases lM:v.keys=u.keys
    ·(have g4:decide (v.keys=u.keys)=true:=by simpa using lM);rw[g4]at mG;clear g4;have HF:Hid (yJ v u=xu v.list u.list):=Q2 (by rw[qs];simp[hk,hn,hs,lM]);clear hk hn hs lM ih;rw[HF.out];generalize xu v.list u.list=r at*;go_enter func126,ntmps126;go_upto_region 1 with fail;rw[←Hg,←Hi,BU,←dE];clear Hg Hi BU dE;go_wp2_with(with_reducible refine h_A ?_);refine mG.mono ?_;rintro e w3 ⟨rfl,Hh⟩;have S8:=G7 w3 Hh;have bU:=Hk.below Hh;have iI:=hY.below Hh;clear c0 c1 c2 c3 c4 d0 d1 d2 d3 d4 mG G7;have c0:=bU.c0;have c1:=bU.c1;have c2:=bU.c2;have c3:=bU.c3;have c4:=bU.c4;have d0:=iI.c0;have d1:=iI.c1;have d2:=iI.c2;have d3:=iI.c3;have d4:=iI.c4;go_wp2_with(with_reducible refine h_A ?_);refine S8.mono ?_;rintro e w4 ⟨rfl,Hn⟩;clear c0 c1 c2 c3 c4 d0 d1 d2 d3 d4;go_wp2_with(with_reducible refine h_A ?_);go_ret;exact⟨rfl,hB.trans ((Hh.mono hB.size).trans (Hn.mono (q7 hB.size Hh.size)))⟩
    (have g4:decide (v.keys=u.keys)=false:=by simpa using lM);rw[g4]at mG;clear g4 G7 ih;have HF:Hid (yJ v u=false):=Q2 (by rw[qs];simp[lM]);clear lM hk hn hs;go_enter func126,ntmps126;go_upto_region 1 with fail;rw[←Hg,←Hi,BU,←dE];clear Hg Hi BU dE;go_wp2_with(with_reducible refine h_A ?_);refine mG.mono ?_;rintro e w3 ⟨rfl,Hh⟩;clear c0 c1 c2 c3 c4 d0 d1 d2 d3 d4 mG;go_wp2_with(with_reducible refine h_A ?_);go_ret;rw[HF.out];exact⟨rfl,hB.trans (Hh.mono hB.size)⟩
   have qqcx:=();exact Z2x_
  have qqci:=();exact Z2s_
 have qqck:=();exact Z2s_
theorem qx(v:Vl):∀(u:Vl) (h k:VH) (w:World),RVw w v h→RVw w u k→Calls prog 93 #[.agg (vlV v h),.agg (vlV u k)] w (jI w v u):=by
 refine Vl.ind (P:=fun v=>∀(u:Vl) (h k:VH) (w:World),RVw w v h→RVw w u k→Calls prog 93 #[.agg (vlV v h),.agg (vlV u k)] w (jI w v u)) ?_ v;intro v ih u h k w hv hu;obtain⟨K1,j1,K2,j2⟩:=h;obtain⟨M1,i1,M2,i2⟩:=k;unfold vlV jI;simp only;obtain⟨xb,w1,Hg,Hi,hX,Ha⟩:=zg w #[.int .u8 (v.kind:Int),.int .u64 (v.n:Int),.string (str v.s),.slice K1 v.keys.length j1,.slice K2 v.list.length j2] 78;obtain⟨yb,w2,iD,dE,hY,Hc⟩:=zg w1 #[.int .u8 (u.kind:Int),.int .u64 (u.n:Int),.string (str u.s),.slice M1 u.keys.length i1,.slice M2 u.list.length i2] 78;have BU:xb+1=yb:=by rw[iD,Hi,Hg];simp
 have hB:=Ha.trans (Hc.mono Ha.size);have Hk:=hX.below Hc;have fj:=hv.up hB;have rj:=hu.up hB;have c0:=Hk.c0;have c1:=Hk.c1;have c2:=Hk.c2;have c3:=Hk.c3;have c4:=Hk.c4;have d0:=hY.c0;have d1:=hY.c1;have d2:=hY.c2;have d3:=hY.c3;have d4:=hY.c4;have bR:((str v.s).toList !=(str u.s).toList)= !decide (v.s=u.s):=by rw[bne,jZ]
 have dG:=jZ v.s u.s;obtain⟨xs,_,_,_,lT⟩:=fj.parts;obtain⟨ys,_,_,_,Ab⟩:=rj.parts;have OO:=hv.bounds;have hbu:=hu.bounds;have BF:=fun{i:Nat} (hi:i<v.list.length)=>fj.elem hi
 have dm:=fun{i:Nat} (hi:i<u.list.length)=>rj.elem hi
 simp only at lT Ab BF dm;clear iD hX hv hu;by_cases hk:v.kind=u.kind
 ·have g1:((v.kind:Int)!=(u.kind:Int))=false:=by simp[hk]
  by_cases hn:v.n=u.n
  ·(have g2:((v.n:Int)!=(u.n:Int))=false:=by simp[hn]);by_cases hs:v.s=u.s
   ·(have g3:decide (v.s=u.s)=true:=by simpa using hs);rw[g3]at bR dG;simp only[Bool.not_true]at bR;clear g3;by_cases iN:v.keys.length=u.keys.length
    ·(have g4:((v.keys.length:Int)!=(u.keys.length:Int))=false:=by simp[iN]);by_cases fD:v.list.length=u.list.length
     ·(have g5:((v.list.length:Int)!=(u.list.length:Int))=false:=by simp[fD]);have HE:Hid (yJ v u=(decide (v.keys=u.keys)&&xu v.list u.list)):=Q2 (by rw[qs];simp[hk,hn,hs]);have T8:=Q2 iN;have rF:=Q2 fD;have IH:=Q2 ih;have lh:=OO.2.2.2.2.1;have dI:=OO.2.2.2.2.2;clear hk hn hs iN fD ih OO hbu;rw[HE.out];go_enter func93,ntmps93;go_upto_region 1 with fail;rw[←Hg,←Hi,BU,←dE];clear Hg Hi BU dE;go_wp2_with(with_reducible refine h_A ?_);clear c0 c1 c2 c3 c4 d0 d1 d2 d3 d4 g1 g2 g4 g5 bR dG;go_loopw [5] (fun s wr=>∃i:Nat,i≤v.keys.length∧s= .int .i64 i∧Box wr xb 78 #[.int .u8 (v.kind:Int),.int .u64 (v.n:Int),.string (str v.s),.slice K1 v.keys.length j1,.slice K2 v.list.length j2]∧Box wr yb 78 #[.int .u8 (u.kind:Int),.int .u64 (u.n:Int),.string (str u.s),.slice M1 u.keys.length i1,.slice M2 u.list.length i2]∧Below w.heap.size w wr∧Below w2.heap.size w2 wr∧Hid (v.keys.take i=u.keys.take i)) (fun s _=>v.keys.length-(KS s).toNat)
      case atStart=>exact⟨0,by omega,rfl,Hk,hY,hB,VB _ _,Q2 Wz⟩
      as_aux_lemma=>
      clear Hk hY hB;obtain⟨i,hi,rfl,bU,iI,Hh,Bn,HC⟩:=hrel;have c3:=bU.c3;have d3:=iI.c3;simp only[ky,y1,kx]at c3 d3;by_cases hlt:i<v.keys.length
      ·(have g1:(i:Int)<(v.keys.length:Int):=by omega);(have iZ:i<u.keys.length:=by rw[←T8.out];exact hlt);obtain⟨b,off,rfl,hC⟩:=jH lT.1 hlt hlt;obtain⟨b',off',rfl,wF⟩:=jH Ab.1 iZ iZ;have y0:=hC wr Bn;have z0:=wF wr Bn;(have GT:(i:Int)<(u.keys.length:Int):=by omega);have HT:Hid (v.keys.take (i+1)=v.keys.take i++ [v.keys[i]]):=Q2 (Vy hlt);have IM:Hid (u.keys.take (i+1)=u.keys.take i++ [u.keys[i]]):=Q2 (Vy iZ);have HX:Hid (∀e:v.keys=u.keys,v.keys[i]=u.keys[i]):=Q2 (fun e=>by simp only[e]);clear hC wF;generalize v.keys[i]=a at*;generalize u.keys[i]=b2 at*;have Br:=jZ a b2;(have Bz:((str a).toList !=(str b2).toList)= !decide (a=b2):=by rw[bne,Br]);by_cases ez:a=b2
       ·(have g2:decide (a=b2)=true:=by simpa using ez);rw[g2]at Br Bz;have cM:Hid (v.keys.take (i+1)=u.keys.take (i+1)):=Q2 (by rw[HT.out,IM.out,HC.out,ez]);subst ez;simp only[Bool.not_true]at Bz;clear BF dm;go_wp2_with(with_reducible refine h_A ?_);go_quiet(fail);go_wp2_with(with_reducible refine h_A ?_);exact⟨⟨i+1,by omega,by go_num,bU,iI,za Hh _,za Bn _,cM⟩,by simp[KS];omega⟩
       exact Z31_
      have g1:¬(i:Int)<(v.keys.length:Int):=by omega
      have UY:Hid (decide (v.keys=u.keys)=true):=Q2 (decide_eq_true (by
       have:=HC.out
       rwa[kI Wq,kI (by have:=T8.out;omega)]at this))
      clear lT Ab;go_wp2_with(with_reducible refine h_A ?_);clear c3 d3;go_loopw [6] (fun s wr=>∃i:Nat,i≤v.list.length∧s= .int .i64 i∧Box wr xb 78 #[.int .u8 (v.kind:Int),.int .u64 (v.n:Int),.string (str v.s),.slice K1 v.keys.length j1,.slice K2 v.list.length j2]∧Box wr yb 78 #[.int .u8 (u.kind:Int),.int .u64 (u.n:Int),.string (str u.s),.slice M1 u.keys.length i1,.slice M2 u.list.length i2]∧Below w.heap.size w wr∧Below w2.heap.size w2 wr∧Hid (xu (v.list.drop i) (u.list.drop i)=xu v.list u.list)) (fun s _=>v.list.length-(KS s).toNat)
      case atStart=>exact⟨0,by omega,rfl,bU,iI,Hh,Bn,Q2 rfl⟩
      as_aux_lemma=>
      clear bU iI Hh Bn;obtain⟨i,hi,rfl,bU,iI,Hh,Bn,HC⟩:=hrel;have c4:=bU.c4;have d4:=iI.c4;simp only[ky,y1,kx]at c4 d4;by_cases hlt:i<v.list.length
      ·(have g1:(i:Int)<(v.list.length:Int):=by omega);(have iZ:i<u.list.length:=by rw[←rF.out];exact hlt);(have GT:(i:Int)<(u.list.length:Int):=by omega);obtain⟨b,off,hx,rfl,ep,HX⟩:=BF hlt;obtain⟨b',off',hy,rfl,Lv,HY⟩:=dm iZ;have HD:Hid (xu (v.list.drop i) (u.list.drop i)=(yJ v.list[i] u.list[i]&&xu (v.list.drop (i+1)) (u.list.drop (i+1)))):=Q2 (by rw[Vx hlt,Vx iZ,vE]);(have bP:=fun(W:World) (hW:Below w2.heap.size w2 W)=>IH.out _ (q6 hlt) u.list[i] hx hy W (ep.up hW) (Lv.up hW));clear BF ep dm Lv;generalize v.list[i]=x at*;generalize u.list[i]=y at*;unfold vlV jI at bP;go_upto_region 11 with fail;clear c4 d4;refine zt (fun W:World=>Box W xb 78 #[.int .u8 (v.kind:Int),.int .u64 (v.n:Int),.string (str v.s),.slice K1 v.keys.length j1,.slice (some ⟨b,off,none⟩) v.list.length j2]∧Box W yb 78 #[.int .u8 (u.kind:Int),.int .u64 (u.n:Int),.string (str u.s),.slice M1 u.keys.length i1,.slice (some ⟨b',off',none⟩) u.list.length i2]∧Below w.heap.size w W∧Below w2.heap.size w2 W) Wj ?_;have hS:Box wr.drew xb 78 #[.int .u8 (v.kind:Int),.int .u64 (v.n:Int),.string (str v.s),.slice K1 v.keys.length j1,.slice (some ⟨b,off,none⟩) v.list.length j2]∧Box wr.drew yb 78 #[.int .u8 (u.kind:Int),.int .u64 (u.n:Int),.string (str u.s),.slice M1 u.keys.length i1,.slice (some ⟨b',off',none⟩) u.list.length i2]∧Below w.heap.size w wr.drew∧Below w2.heap.size w2 wr.drew:=⟨bU,iI,za Hh 1,za Bn 1⟩;generalize wr.drew=wd at*;refine rg_t 0 hS ?_;simp only[ky,kx,Act.put,v1,v2,v3];refine ze 1 (v:=?_) rfl Wj Wj Wj hS rfl ?_ ?_;rotate_left
       ·intro wS He;have k0:=He.1.cell (j:=4) rfl;go_simp;(with_reducible rfl)
       simp only[g_S];refine rg_t 2 hS ?_;simp only[g_S];refine rg_t 3 hS ?_;simp only[g_S];refine ze 4 (v:=?_) rfl Wj Wj Wj hS rfl ?_ ?_;rotate_left
       ·intro wS He;obtain⟨k0,k1,k2,k3,k4⟩:=HX _ He.2.2.2;go_simp;(with_reducible rfl)
       simp only[g_S];refine rg_t 5 hS ?_;simp only[g_S];refine ze 6 (v:=?_) rfl Wj Wj Wj hS rfl ?_ ?_;rotate_left
       ·intro wS He;have k0:=He.2.1.cell (j:=4) rfl;go_simp;(with_reducible rfl)
       simp only[g_S];refine rg_t 7 hS ?_;simp only[g_S];refine rg_t 8 hS ?_;simp only[g_S];refine ze 9 (v:=?_) rfl Wj Wj Wj hS rfl ?_ ?_;rotate_left
       ·intro wS He;obtain⟨k0,k1,k2,k3,k4⟩:=HY _ He.2.2.2;go_simp;(with_reducible rfl)
       simp only[g_S];refine zj 10 rfl Wj rfl (fun K hK=>?_);go_simp;refine(bP _ hS.2.2.2).mono ?_;rintro e w5 ⟨rfl,bz⟩;obtain⟨Bg,NW,Hn,nm⟩:=hS;have hS:Box w5 xb 78 #[.int .u8 (v.kind:Int),.int .u64 (v.n:Int),.string (str v.s),.slice K1 v.keys.length j1,.slice (some ⟨b,off,none⟩) v.list.length j2]∧Box w5 yb 78 #[.int .u8 (u.kind:Int),.int .u64 (u.n:Int),.string (str u.s),.slice M1 u.keys.length i1,.slice (some ⟨b',off',none⟩) u.list.length i2]∧Below w.heap.size w w5∧Below w2.heap.size w2 w5:=⟨Bg.below bz,NW.below bz,Hn.trans (bz.mono Hn.size),nm.trans (bz.mono nm.size)⟩;clear Bg NW Hn nm bz bU iI Hh Bn HX HY bP;refine hK _ _ hS ?_;clear hK K;(try simp only[g_S]);refine rg_t 11 hS ?_;simp only[g_S];refine zD Wj ?_;obtain⟨Bg,NW,Hn,nm⟩:=hS
       cases hs:yJ x y
       ·have HF:Hid (xu v.list u.list=false):=Q2 Nx;clear hs;go_wp2_with(with_reducible refine h_A ?_);go_ret;rw[UY.out,Bool.true_and,HF.out];exact⟨rfl,Hn⟩
       have cM:Hid (xu (v.list.drop (i+1)) (u.list.drop (i+1))=xu v.list u.list):=Q2 Nx;clear hs;go_wp2_with(with_reducible refine h_A ?_);exact⟨⟨i+1,by omega,by go_num,Bg,NW,Hn,nm,cM⟩,by simp[KS];omega⟩
      have g1:¬(i:Int)<(v.list.length:Int):=by omega
      have HF:Hid (xu v.list u.list=true):=Q2 (by
       rw[←HC.out,q9 Wq,q9 (by have:=rF.out;omega),xu])
      clear BF dm;go_wp2_with(with_reducible refine h_A ?_);go_ret;rw[UY.out,Bool.true_and,HF.out];exact⟨rfl,Hh⟩
     have qqcg:=();exact Z2s_
    exact Z2s_
   exact Z2x_
  have qqch:=();exact Z2s_
 have qqcj:=();exact Z2s_
end Go.PH
section
namespace Go.PH
open Go.RowKit Go.Proofs Go.ChangeShapes Go.WideShapes Go.ChangeAt Go.Deep
section
variable {H : Type} {enc : TypeId × Value → H} {P : Program} {W : World}
def ReaderN(N:Nat)(enc:TypeId×Value→H)(P:Program)(W:World)(t:TypeId){α:Type}(R:α→List Value→Prop):Prop:=
 ∀(fuel:Nat),fuel<N→∀(cs:List Value) (d:DataW H) (p:List MemPlace),DataW.trod enc P W 0 (fun _=>true) true fuel t cs=some (d,p)→(∀x∈d.weights P t,x≤reachBytes)→∃a,R a cs
theorem Reader.at{N:Nat}{t:TypeId}{α:Type}{R:α→List Value→Prop}(h:Reader enc P W t R):ReaderN N enc P W t R:=fun fuel _=>h fuel
theorem ReaderN.all{t:TypeId}{α:Type}{R:α→List Value→Prop}(h:∀N,ReaderN N enc P W t R):Reader enc P W t R:=fun fuel=>h (fuel+1) fuel (Nat.lt_succ_self _)
theorem zcm{xs:List Value}:∀{L:List (List UInt8)},xs.length=L.length*1→(∀i (h:i<L.length),RStr L[i] ((xs.drop (i*1)).take 1))→xs=L.map txV∧∀k∈L,k.length≤140737488351232:=by
 intro L
 induction L generalizing xs with
 | nil=>intro hx _;exact⟨z6 (by simpa using hx),fun k hk=>by cases hk⟩
 | cons a L ih=>
  intro hx h
  match xs,hx with
  | x::xs,hx=>
   have h0:=h 0 Wz;obtain⟨GY,U9⟩:=h0;simp at GY U9
   obtain⟨e1,e2⟩:=ih (xs:=xs) (by simpa using hx) (fun i hi=>by
    have:=h (i+1) Hq;rw[show(i+1)*1=i*1+1 by omega,List.drop_succ_cons]at this
    exact this)
   refine⟨by rw[List.map_cons,←e1,GY];rfl,fun k hk=>?_⟩;rcases List.mem_cons.1 hk with rfl|hk
   ·exact U9
   exact e2 k hk
end
variable {H : Type} {enc : TypeId × Value → H} {W : World}
theorem zdf{w:World}{size n c:Nat}{A:Option Addr}{xs:List Value}(h:Rd w w.heap.size size A n c xs):RdX w (fun g=>g<w.heap.size) size A n c xs:=⟨h,fun hn g hg=>by
 obtain⟨b,off,e,hb,_⟩:=h.at_ hn;subst e;injection hg with hg
 rw[←hg];exact hb⟩
end Go.PH
end
namespace Go.PH
open Go.RowKit Go.Proofs Go.Proofs.Tryz
variable {base c g gb i j k n : Nat} {F : Nat → Prop} {A : Option Addr} {v : Value} {w w' : World}
end Go.PH
section
namespace Go.PH
end Go.PH
end
namespace Go.PH
open Go.RowKit Go.Proofs Go.Proofs.Tryz
variable {base c g gb i j k n : Nat} {F : Nat → Prop} {A : Option Addr} {v : Value} {w w' : World}
theorem slTx:SlT prog 22 9 1 16 (.string ⟨#[]⟩):=SlT.mk' underlying22 Wj rfl Wq
theorem slVl:SlT prog 76 78 5 80 (.agg #[.int .u8 0,.int .u64 0,.string ⟨#[]⟩,.slice none 0 0,.slice none 0 0]):=SlT.mk' underlying76 Wj rfl Wq
def FB(base:Nat)(A:Option Addr)(w:World):Nat→Prop:=fun g=>base≤g∧g<w.heap.size∧blk A≠some g
def FN(base:Nat)(w:World):Nat→Prop:=fun g=>base≤g∧g<w.heap.size
section
def FB2(base:Nat)(A AK:Option Addr)(w:World):Nat→Prop:=fun g=>base≤g∧g<w.heap.size∧blk A≠some g∧blk AK≠some g
structure MnS(wr:World)(base:Nat)(K:List (List UInt8))(AK:Option Addr)(cK:Nat)(A:Option Addr)(c:Nat)(xs:List (Vl×VH)):Prop where
 own:Own wr base 78 5 A xs.length c (rowC vlC xs)
 kown:Own wr base 9 1 AK K.length cK (K.map txV)
 ne:∀g,blk A=some g→blk AK≠some g
 el:∀p∈xs,RV wr (FB2 base A AK wr) p.1 p.2
theorem VG{wr wr':World}{e size:Nat}{ys:List Value}(h:Own wr base e size A n c ys)(hk:∀g,base≤g→g<wr.heap.size→wr'.heap[g]?=wr.heap[g]?):Own wr' base e size A n c ys:=by
 have qqcb:=();exact Z2q_
section
variable {wr wr' w5 w6 : World} {base : Nat} {K : List (List UInt8)} {AK A A2 : Option Addr} {cK c c2 : Nat} {xs : List (Vl × VH)}
theorem MnS.on(h:MnS wr base K AK cK A c xs)(hk:∀g,base≤g→g<wr.heap.size→wr'.heap[g]?=wr.heap[g]?)(hs:wr.heap.size≤wr'.heap.size):MnS wr' base K AK cK A c xs:=by
 have hF:∀g,FB2 base A AK wr g→FB2 base A AK wr' g:=fun g hg=>⟨hg.1,q5 hg.2.1 hs,hg.2.2⟩
 exact⟨VG h.own hk,VG h.kown hk,h.ne,fun p hp=>((h.el p hp).keep (fun g hg=>hk g hg.1 hg.2.1) hs).mono hF⟩
theorem MnS.below(h:MnS wr base K AK cK A c xs)(hB:Below wr.heap.size wr wr'):MnS wr' base K AK cK A c xs:=h.on (fun g _ hg=>hB.block g hg) hB.size
theorem MnS.box{b:Nat}(h:MnS wr base K AK cK A c xs)(hg:wr.grownBy wr' (some b))(hb:b<base):MnS wr' base K AK cK A c xs:=
 h.on (fun g bM Hm=>hg.block g Hm ux) hg.size
theorem MnS.nil(wr:World)(base:Nat):MnS wr base [] none 0 none 0 []:=⟨Own.none_ _ _ _ _,Own.none_ _ _ _ _,fun g h=>(by cases h),fun p hp=>(by cases hp)⟩
theorem MnS.pushK{k:List UInt8}(h:MnS w5 base K AK cK A c xs)(ho:Own w6 base 9 1 A2 (K.length+1) c2 ((K++ [k]).map txV))(hg:w5.grownBy w6 (blk AK))(hA:blk A2=blk AK∨∀g,blk A2=some g→w5.heap.size≤g):MnS w6 base (K++ [k]) A2 c2 A c xs:=by
 have tY:∀g,blk A=some g→g<w5.heap.size:=fun g hg=>(h.own.blk_lt hg).2
 refine⟨zk h.own hg (fun g hg e=>h.ne g hg e),by rw[v9];exact ho,fun g hg e=>?_,fun p hp=>?_⟩
 ·rcases hA with e2|e2
  ·exact h.ne g hg (by rw[←e2,e])
  have:=tY g hg;have:=e2 g e;omega
 have hk:∀g,FB2 base A AK w5 g→w6.heap[g]?=w5.heap[g]?:=fun g bM=>hg.block g bM.2.1 (fun e=>bM.2.2.2 e.symm)
 have hF:∀g,FB2 base A AK w5 g→FB2 base A A2 w6 g:=fun g bM=>⟨bM.1,q5 bM.2.1 hg.size,bM.2.2.1,by
  rcases hA with e|e
  ·rw[e];exact bM.2.2.2
  ·intro e2;have:=e g e2;have:=bM.2.1;omega⟩
 exact((h.el p hp).keep hk hg.size).mono hF
theorem MnS.push{W4:Nat}{x:Vl}{hx:VH}(h:MnS w5 base K AK cK A c xs)(h4:∀g,blk A=some g∨blk AK=some g→g<W4)(iT:base≤W4)(hv:RV w5 (FN W4 w5) x hx)
  (ho:Own w6 base 78 5 A2 (xs.length+1) c2 (rowC vlC (xs++ [(x,hx)]))) (hg:w5.grownBy w6 (blk A)) (hA:blk A2=blk A∨∀g,blk A2=some g→w5.heap.size≤g):MnS w6 base K AK cK A2 c2 (xs++ [(x,hx)]):=by
 exact Z1w_
theorem MnS.fresh{W4:Nat}{x:Vl}{hx:VH}(h:MnS w5 base K AK cK A c xs)(h4:∀g,blk A=some g∨blk AK=some g→g<W4)(iT:base≤W4)(hv:RV w5 (FN W4 w5) x hx)
  (hg:w5.grownBy w6 (blk A)) (hA:blk A2=blk A∨∀g,blk A2=some g→w5.heap.size≤g):RV w6 (FB2 base A2 AK w6) x hx:=by
 have qq9e:=();exact Z1w_
theorem MnS.setlast{z:Vl×VH}{x:Vl}{hx:VH}(h:MnS w5 base K AK cK A c (xs++ [z]))(hv:RV w5 (FB2 base A AK w5) x hx)(ho:Own w6 base 78 5 A (xs.length+1) c (rowC vlC (xs++ [(x,hx)])))(hg:w5.grownBy w6 (blk A)):MnS w6 base K AK cK A c (xs++ [(x,hx)]):=by
 have hF:∀g,FB2 base A AK w5 g→FB2 base A AK w6 g:=fun g bM=>⟨bM.1,q5 bM.2.1 hg.size,bM.2.2⟩
 have hk:∀g,FB2 base A AK w5 g→w6.heap[g]?=w5.heap[g]?:=fun g bM=>hg.block g bM.2.1 (fun e=>bM.2.2.1 e.symm)
 refine⟨by rw[v9];exact ho,zk h.kown hg (fun g hg e=>h.ne g e hg),h.ne,fun p hp=>?_⟩;rcases v0.1 hp with hp|hp
 ·exact((h.el p (List.mem_append_left _ hp)).keep hk hg.size).mono hF
 obtain rfl:=zB.1 hp;exact(hv.keep hk hg.size).mono hF
theorem MnS.rv{B:Nat}(h:MnS wr base K AK cK A c xs)(hB:B≤base)(hk:k<256)(bK:∀x∈K,x.length≤140737488351232)(h1:K.length≤140737488351232)(h2:xs.length≤140737488351232):RV wr (FN B wr) (.mk k 0 [] K (xs.map (·.1))) ⟨AK,cK,A,c⟩:=by
 have Cc:∀g,FB2 base A AK wr g→FN B wr g:=fun g hg=>⟨q7 hB hg.1,hg.2.1⟩
 refine⟨xs,hk,(by show(0:Nat)<_;decide),(by show(0:Nat)≤_;omega),RdX.of_own h.kown (fun g hg=>?_),bK,h1,(by show(xs.map (·.1)).length≤_;simpa using h2),?_,rfl,fun p hp=>(h.el p hp).mono Cc⟩
 ·have:=h.kown.blk_lt hg;exact⟨by omega,this.2⟩
 have ho:=h.own;show RdX wr (FN B wr) 5 A (xs.map (·.1)).length c (rowC vlC xs)
 exact Z5q_
end
def KP(B pb vb:Nat)(w w':World):Prop:=Below B w w'∧∀g,g<w.heap.size→g≠pb→g≠vb→w'.heap[g]?=w.heap[g]?
section
variable {B pb vb : Nat} {a w w' : World}
theorem KP.refl(B pb vb:Nat)(w:World):KP B pb vb w w:=⟨VB _ _,fun _ _ _ _=>rfl⟩
theorem KP.size(h:KP B pb vb a w):a.heap.size≤w.heap.size:=h.1.size
theorem KP.trans(h:KP B pb vb a w)(k:KP B pb vb w w'):KP B pb vb a w':=⟨h.1.trans k.1,fun g hg h1 h2=>(k.2 g (q5 hg h.size) h1 h2).trans (h.2 g hg h1 h2)⟩
theorem KP.below(h:KP B pb vb a w)(hb:B≤a.heap.size)(k:Below w.heap.size w w'):KP B pb vb a w':=h.trans ⟨k.mono (q7 hb h.size),fun g hg _ _=>k.block g hg⟩
theorem KP.grown(h:KP B pb vb a w)(hb:B≤a.heap.size){row:Option Nat}(hg:w.grownBy w' row)(hr:∀g,row=some g→B≤g∧(g=pb∨g=vb∨a.heap.size≤g)):KP B pb vb a w':=
 ⟨h.1.grown hg (q7 hb h.size) (fun g e=>(hr g e).1),fun g hlt h1 h2=>(hg.block g (q5 hlt h.size) (fun e=>by rcases(hr g e.symm).2 with e|e|e<;>omega)).trans (h.2 g hlt h1 h2)⟩
theorem KP.drew(h:KP B pb vb a w):KP B pb vb a w.drew:=⟨za h.1 1,h.2⟩
theorem KP.box{t:TypeId}{cs:Array Value}(h:KP B pb vb w w')(hb:Box w g t cs)(h1:g≠pb)(h2:g≠vb):Box w' g t cs:=(h.2 g hb.lt h1 h2).trans hb
theorem KP.own{e size:Nat}{ys:List Value}(h:KP B pb vb w w')(ho:Own w base e size A n c ys)(h1:pb<base)(h2:vb<base):Own w' base e size A n c ys:=VG ho (fun g bM Hm=>h.2 g Hm Wq Wq)
theorem KP.mns{K:List (List UInt8)}{AK:Option Addr}{cK:Nat}{xs:List (Vl×VH)}(h:KP B pb vb w w')(ho:MnS w base K AK cK A c xs)(h1:pb<base)(h2:vb<base):MnS w' base K AK cK A c xs:=ho.on (fun g bM Hm=>h.2 g Hm Wq Wq) h.size
end
end
def PAN:List PanicEntry:=[{v:=.iface 251 (.agg #[]),recovered:=false}]
theorem xK{vb:Option Nat}{l:List UInt8}(h:Rdr F w v vb l false){pb:Nat}{n:Int}(hp:Box w pb 255 #[v,.int .i64 n]):
  Calls prog 178 #[.pointer (some ⟨pb,0,none⟩),.bool true] w fun e w'=>e= .returned (.tuple #[])∧w'=w:=by
 have hb:=yD h;have c0:=hp.c0;clear h hp;go_enter func178,ntmps178;go_wp2_with(with_reducible refine h_A ?_);refine hb.mono ?_;rintro e w' ⟨rfl,rfl⟩;go_wp2_with(with_reducible refine h_A ?_);go_end0;exact⟨rfl,rfl⟩
theorem xR{vb:Option Nat}{l:List UInt8}{bad:Bool}(h:Rdr F w v vb l bad){pb:Nat}{n:Int}(hp:Box w pb 255 #[v,.int .i64 n])(is:Bool)(BN:is=false∨bad=true):
  Calls prog 178 #[.pointer (some ⟨pb,0,none⟩),.bool is] w fun e w'=>e= .panicked PAN∧w'=w:=by
 have hb:=yD h;have c0:=hp.c0;clear h hp
 cases is
 ·clear BN;go_enter func178,ntmps178;go_wp2_with(with_reducible refine h_A ?_);exact⟨rfl,rfl,rfl⟩
 obtain rfl:bad=true:=BN.resolve_left WJ;clear BN;go_enter func178,ntmps178;go_wp2_with(with_reducible refine h_A ?_);refine hb.mono ?_;rintro e w' ⟨rfl,rfl⟩;go_wp2_with(with_reducible refine h_A ?_);exact⟨rfl,rfl,rfl⟩
end Go.PH
section
namespace Go.PH
def u8N(n b0 b1 b2 b3:Nat):Nat:=
 if b0<128 then 1
 else if 194≤b0∧b0≤223∧1<n∧128≤b1∧b1≤191 then 2
 else if 224≤b0∧b0≤239∧2<n∧128≤b1∧b1≤191∧(b0=224→160≤b1)∧(b0=237→b1≤159)∧128≤b2∧b2≤191 then 3
 else if 240≤b0∧b0≤244∧3<n∧128≤b1∧b1≤191∧(b0=240→144≤b1)∧(b0=244→b1≤143)∧128≤b2∧b2≤191∧128≤b3∧b3≤191 then 4
 else 0
theorem zdi(n b0 b1 b2 b3:Nat)(hn:0<n):u8N n b0 b1 b2 b3≤n:=by
 unfold u8N;repeat' split
 all_goals omega
def yh(l:List UInt8)(k:Nat):Nat:=((l[k]?).getD 0).toNat
theorem qI(l:List UInt8)(k:Nat):yh l k<256:=UInt8.toNat_lt _
def xD(l:List UInt8):Nat:=u8N l.length (yh l 0) (yh l 1) (yh l 2) (yh l 3)
theorem Xz(n b0 b1 b2 b3:Nat)(h0:b0<256)(h1:b1<256)(h2:b2<256)(h3:b3<256):
  if u8N n b0 b1 b2 b3=0 then kv n b0 b1 b2 b3=(65533,1)else(kv n b0 b1 b2 b3).2=u8N n b0 b1 b2 b3∧((kv n b0 b1 b2 b3).1=65533→u8N n b0 b1 b2 b3≠1):=by
 unfold u8N;by_cases c1:b0<128
 ·simp only[c1,if_true];rw[if_neg Wq];unfold kv;rw[if_pos c1];exact⟨rfl,fun h=>by simp only at h;omega⟩
 rw[if_neg c1];unfold kv;rw[if_neg c1];by_cases c2:194≤b0∧b0≤223∧1<n∧128≤b1∧b1≤191
 ·rw[if_pos c2,if_neg Wq,if_pos Wq,if_pos Wq];exact⟨rfl,fun _=>by omega⟩
 rw[if_neg c2];by_cases c3:224≤b0∧b0≤239∧2<n∧128≤b1∧b1≤191∧(b0=224→160≤b1)∧(b0=237→b1≤159)∧128≤b2∧b2≤191
 ·rw[if_pos c3,if_neg Wq,if_neg Wq,if_pos Wq,if_pos Wq];exact⟨rfl,fun _=>by omega⟩
 rw[if_neg c3];by_cases c4:240≤b0∧b0≤244∧3<n∧128≤b1∧b1≤191∧(b0=240→144≤b1)∧(b0=244→b1≤143)∧128≤b2∧b2≤191∧128≤b3∧b3≤191
 ·rw[if_pos c4,if_neg Wq,if_neg Wq,if_neg Wq,if_pos Wq,if_pos Wq];exact⟨rfl,fun _=>by omega⟩
 rw[if_neg c4,if_pos rfl];by_cases d2:b0 / 32=6∧(1<n∧b1 / 64=2)
 ·rw[if_pos d2,if_neg Wq]
 rw[if_neg d2];by_cases d3:b0 / 16=14∧(1<n∧b1 / 64=2)∧(2<n∧b2 / 64=2)
 ·rw[if_pos d3,if_neg Wq]
 rw[if_neg d3];by_cases d4:b0 / 8=30∧(1<n∧b1 / 64=2)∧(2<n∧b2 / 64=2)∧(3<n∧b3 / 64=2)
 ·rw[if_pos d4,if_neg Wq]
 rw[if_neg d4]
def utfF:Nat→List UInt8→Bool
 | 0,l=>l.isEmpty
 | f+1,l=>if l=[]then true else if xD l=0 then false else utfF f (l.drop (xD l))
def zJ(l:List UInt8):Bool:=utfF l.length l
theorem ZK{l:List UInt8}(h:l≠ []):xD l≤l.length:=zdi _ _ _ _ _ (v4.2 h)
theorem Vc:∀(f:Nat) (l:List UInt8),l.length≤f→utfF f l=zJ l:=by
 intro f
 induction f using Nat.strongRecOn with
 | _ f ih=>
  intro l hl;by_cases h0:l=[]
  ·subst h0
   cases f<;>rfl
  have hp:=v4.2 h0;obtain⟨k,hk⟩:∃k,l.length=k+1:=⟨l.length-1,by omega⟩
  obtain⟨f,rfl⟩:∃m,f=m+1:=⟨f-1,by omega⟩
  unfold zJ;rw[hk,utfF,utfF,if_neg h0,if_neg h0];by_cases hs:xD l=0
  ·rw[if_pos hs,if_pos hs]
  rw[if_neg hs,if_neg hs];have bQ:(l.drop (xD l)).length≤k:=by rw[k8];omega
  rw[ih f Wq _ Wq];by_cases RC:k=f
  ·rw[RC,ih f Wq _ Wq]
  rw[ih k Wq _ bQ]
theorem Ym{l:List UInt8}(h0:l≠ [])(h:xD l=0):zJ l=false:=by
 obtain⟨k,hk⟩:∃k,l.length=k+1:=⟨l.length-1,by have:=v4.2 h0;omega⟩
 unfold zJ;rw[hk,utfF,if_neg h0,if_pos h]
theorem vF{l:List UInt8}(h0:l≠ [])(h:xD l≠0):zJ l=zJ (l.drop (xD l)):=by
 obtain⟨k,hk⟩:∃k,l.length=k+1:=⟨l.length-1,by have:=v4.2 h0;omega⟩
 rw[←Vc k (l.drop (xD l)) mz]
 conv=>lhs;unfold zJ
 rw[hk,utfF,if_neg h0,if_neg h]
theorem get!_str(s:List UInt8)(i:Nat):((str s).get! i).toNat=yh s i:=by
 unfold ByteArray.get! str yh;simp only[List.getElem!_toArray,List.getElem!_eq_getElem?_getD];rfl
theorem ke(s:List UInt8)(i k:Nat):yh (s.drop i) k=yh s (i+k):=by
 unfold yh;rw[List.getElem?_drop]
theorem jJ(s:List UInt8)(i:Nat):Utf8.decode (str s) i=kv (s.drop i).length (yh (s.drop i) 0) (yh (s.drop i) 1) (yh (s.drop i) 2) (yh (s.drop i) 3):=by
 rw[Lib.decode_at];simp only[get!_str,zh,k8,ke,z8]
theorem Qu(s:List UInt8)(i:Nat):if xD (s.drop i)=0 then Utf8.decode (str s) i=(65533,1)else(Utf8.decode (str s) i).2=xD (s.drop i)∧((Utf8.decode (str s) i).1=65533→xD (s.drop i)≠1):=by
 rw[jJ];exact Xz _ _ _ _ _ (qI _ _) (qI _ _) (qI _ _) (qI _ _)
end Go.PH
end
namespace Go.PH
open Go.RowKit Go.Proofs Go.Proofs.Tryz
variable {base c g gb i j k n : Nat} {F : Nat → Prop} {A : Option Addr} {v : Value} {w w' : World}
def zcq(k:Nat)(w:World):Nat:=match w.heap[k]? with|some (.stringIter _ p)=>p|_=>0
theorem YU{p:Nat}{s:ByteArray}(h:w.heap[k]?=some (.stringIter s p)):zcq k w=p:=by unfold zcq;rw[h]
abbrev UTabs(w:World):Prop:=Lib.Utf8Tabs 1 2 w
theorem Vb(s:List UInt8)(i:Nat):(Utf8.decode (str s) i).1<2147483648∧1≤(Utf8.decode (str s) i).2∧(Utf8.decode (str s) i).2≤4:=by
 rw[jJ];have h0:=qI (s.drop i) 0;have h1:=qI (s.drop i) 1;have h2:=qI (s.drop i) 2;have h3:=qI (s.drop i) 3;unfold kv;repeat' split
 all_goals(refine⟨?_,?_,?_⟩<;>(simp only;omega))
theorem YV(s:List UInt8)(i:Nat)(hi:i<s.length):y2 (str (s.drop i))=Utf8.decode (str s) i:=by
 have h0:(str (s.drop i)).size≠0:=by rw[zh,k8];omega
 unfold y2;rw[if_neg h0,jJ,jJ,List.drop_zero]
theorem UTabs.on(h:UTabs w)(hB:Below w.heap.size w w'):UTabs w':=by
 refine⟨fun c hc=>?_,fun i hi=>⟨?_,?_⟩⟩
 ·have:=h.1 c hc;exact(hB.cell (p:=⟨_,c,none⟩) (k9 w _ this)).trans this
 ·have:=(h.2 i hi).1;exact(hB.cell (p:=⟨_,2*i,none⟩) (k9 w _ this)).trans this
 have:=(h.2 i hi).2;exact(hB.cell (p:=⟨_,2*i+1,none⟩) (k9 w _ this)).trans this
theorem Xy(s:List UInt8)(w:World)(hs:s.length≤140737488351232)(hT:UTabs w):
  Calls prog 173 #[.string (str s)] w fun e w'=>e= .returned (.bool (zJ s))∧Below w.heap.size w w':=by
 have dR:=fun(w:World) (k pos:Nat) ty=>Lib.run_next_any_at (P:=prog) w k (str s) pos ty
 have hne:=fun(w:World) (k pos:Nat) ty=>Lib.run_next_end_at (P:=prog) w k (str s) pos ty
 have Bm:(str s).size=s.length:=rfl;obtain⟨k,hk⟩:∃k,k=w.heap.size:=⟨_,rfl⟩
 obtain⟨w1,fw⟩:∃w1,w1=w.iter (str s) 0:=⟨_,rfl⟩
 have dw:w1.heap[k]?=some (.stringIter (str s) 0):=by rw[fw,hk];exact World.iter_heap _ _ _
 have Ha:Below w.heap.size w w1:=by rw[fw];exact(VB _ _).alloc (q8 _) _
 have HK:=Q2 hk;go_enter func173,ntmps173;go_upto_region 2 with fail;rw[←fw,←hk];clear fw hk;go_wp2_with(with_reducible refine h_A ?_);go_loopw [9] (fun _ wr=>∃pos:Nat,pos≤s.length∧wr.heap[k]?=some (.stringIter (str s) pos)∧Hid (zJ (s.drop pos)=zJ s)∧Below w.heap.size w wr) (fun _ wr=>s.length-zcq k wr)
 case atStart=>exact⟨0,by omega,dw,Q2 rfl,Ha⟩
 clear dw Ha;obtain⟨pos,hp,dw,HC,hB⟩:=hrel;by_cases hlt:pos<s.length
 ·have hx:=fun ty=>dR wr k pos ty dw hlt
  have hd:=Qu s pos;obtain⟨ck,dN,i6⟩:=Vb s pos;have fL:=YV s pos hlt;obtain⟨c,hc⟩:∃c,(Utf8.decode (str s) pos).1=c:=⟨_,rfl⟩
  obtain⟨q,hq⟩:∃q,(Utf8.decode (str s) pos).2=q:=⟨_,rfl⟩
  have DG:Utf8.decode (str s) pos=(c,q):=by rw[←hc,←hq]
  rw[hc]at ck;rw[hq]at dN i6;rw[DG]at hd fL;simp only[hc,hq]at hx;have HD:=Q2 hd;have HG:=Q2 fL;clear hd hc hq DG fL dR hne;have Hc:Below w.heap.size w (wr.iterAt k (str s) (pos+q)):=Lib.below_iterAt hB (by rw[HK.out];exact q8 _) _ _;have Bk:=Lib.iterAt_heap wr k (str s) pos (pos+q) dw;have HP:=Q2 (YU dw);generalize wr.iterAt k (str s) (pos+q)=w2 at*;have an:=Q2 (YU Bk);have fQ:Hid (s.drop pos≠ []):=Q2 (by intro e;have:=congrArg List.length e;rw[k8]at this;simp at this;omega);by_cases GA:c=65533
  ·(have g1:((c:Int)==65533)=true:=by simp[GA]);have D1:=Tryz.utf8_DecodeRuneInString (str (s.drop pos)) w2 (hT.on Hc);rw[HG.out]at D1;simp only at D1;have gF:=ZK fQ.out;rw[k8]at gF;by_cases eQ:q=1
   ·have qq8u:=();exact Z1o_
   exact Z1o_
  have g1:((c:Int)==65533)=false:=by simp;omega
  have bR:xD (s.drop pos)≠0∧q=xD (s.drop pos):=by
   have h:=HD.out;split at h
   ·injection h with e1 e2;exact absurd e1 GA
   rename_i h0;exact⟨h0,h.1⟩
  have cM:Hid (zJ (s.drop (pos+q))=zJ s):=Q2 (by rw[←HC.out,vF fQ.out bR.1,List.drop_drop,←bR.2]);have gF:=ZK fQ.out;rw[←bR.2,k8]at gF;clear bR GA;go_wp2_with(with_reducible refine h_A ?_);exact⟨⟨pos+q,by omega,Bk,cM,Hc⟩,by rw[HP.out,an.out];omega⟩
 have hx:=fun ty=>hne wr k pos ty dw hlt
 have HF:Hid (zJ s=true):=Q2 (by rw[←HC.out,q9 Wq];rfl);clear dR hne;exact Z6j_
end Go.PH
section
namespace Go.Proofs.YtfbkameikhgciaaGreatDoor
open Go.Lib Go.PH Go.RowKit Go.ChangeShapes Go.WideShapes Go.ChangeAt
theorem u8types:Lays.n260 Tryz.prog Tryz.lays197_ren:={Tryz.lays197 with}
theorem u8extra:U8Extra Tryz.prog Tryz.lays197_ren where
 n3:=by kernel_rfl
 n4:=by kernel_rfl
 y3:=by kernel_rfl
 y4:=by kernel_rfl
 c5:=by kernel_rfl
 c119:=by kernel_rfl
 c138:=by kernel_rfl
theorem first_same:Rows.laid_unicode_utf8_first=firstData:=by kernel_rfl
theorem accept_same:(Rows.laid_unicode_utf8_acceptRanges:DataW Unit)=acceptData:=by kernel_rfl
theorem utabs{W:World}(h:laidMetH Tryz.prog utfList W):UTabs W:=by
 have h':laidMet Tryz.prog utfList W:=h;exact utf8Tabs_of_reads u8types u8extra (first_same▸Lib.laidMet.reads h' (by unfold utfList;simp)) (accept_same▸Lib.laidMet.reads h' (by unfold utfList;simp))
end Go.Proofs.YtfbkameikhgciaaGreatDoor
end
namespace Go.PH
open Go.RowKit Go.Proofs Go.Proofs.Tryz
variable {base c g gb i j k n : Nat} {F : Nat → Prop} {A : Option Addr} {v : Value} {w w' : World}
def jf(k:List UInt8):Bool:=decide (1≤k.length)&&decide (k.length≤255)&&zJ k
theorem qt(K:List (List UInt8)):xC K zJ=(K.all jf&&decide K.Nodup):=rfl
theorem Ja{K:List (List UInt8)}(hi:i<K.length)(h:jf K[i]=false):xC K zJ=false:=by
 rw[qt]
 have:K.all jf=false:=by
  rw[List.all_eq_false];exact⟨_,q6 hi,by rw[h];simp⟩
 rw[this];rfl
theorem Yk{K:List (List UInt8)}(hi:i<K.length)(h:K[i]∈K.take i):xC K zJ=false:=by
 rw[qt]
 have:¬K.Nodup:=fun hn=>by
  have h1:(K.take (i+1)).Nodup:=hn.sublist (List.take_sublist _ _);rw[Vy hi,y5]at h1;exact h1.2.2 _ h _ Wz rfl
 rw[decide_eq_false this,Bool.and_false]
theorem Xx{K:List (List UInt8)}(h1:∀k∈K,jf k=true)(h2:K.Nodup):xC K zJ=true:=by
 rw[qt,List.all_eq_true.2 h1,decide_eq_true h2];rfl
theorem Yl{K:List (List UInt8)}(hi:i<K.length)(h:(K.take i).Nodup)(hn:K[i]∉K.take i):(K.take (i+1)).Nodup:=by
 rw[Vy hi,y5];exact⟨h,by simp,fun a ha b hb e=>by rw[zB.1 hb]at e;rw[e]at ha;exact hn ha⟩
abbrev seenMap(w:World)(mb n:Nat)(D:DataW Unit):Prop:=w.ownsMap prog 9 (plainElem (H:=Unit) prog 3) mb n D
theorem seenMap.below{mb:Nat}{D:DataW Unit}(h:seenMap w mb n D)(hB:Below w.heap.size w w'):seenMap w' mb n D:=by
 obtain⟨es,clock,hb,F,hs,hD⟩:=h;exact⟨es,clock,(hB.block mb (Array.getElem?_eq_some_iff.1 hb).1).trans hb,F,hs,hD⟩
theorem str_keyedM:Maps.Keyed prog 9:=Maps.string_keyed underlying9
theorem K9{a:List UInt8}(h:a.length≤140737488351232):keyOf prog 9 (.string (str a))=some (.string a):=WideMaps.keyOf_string_mk underlying9 (by rw[zh];simp[maxLen];omega)
theorem ZJ(a:List UInt8):(str a).toList.isEmpty=decide (a.length=0):=by
 rw[zn]
 cases a<;>simp
theorem JU{P:Program}{ops:Array Oper}{Q:Exit→Act→World→Prop}{rest:List Oper}{a:Act}{dst:Option Tmp}{ty:TypeId}{pos:String}{after:Array Edge}{guard:Option (Nat×Bool)}{t:TypeId}{m k v:Operand}(h:Hold (wpList P ops Q (⟨dst,.mapUpdate t m k v,ty,pos,after,guard⟩::rest) a w)):
  wpList P ops Q (⟨dst,.mapUpdate t m k v,ty,pos,after,guard⟩::rest) a w:=h
theorem Va(A:Option Addr)(n c:Nat)(K:List (List UInt8))(w:World)(hr:Rd w w.heap.size 1 A n c (K.map txV))(hn:n≤140737488351232)(bK:∀k∈K,k.length≤140737488351232)(hT:UTabs w):
  Calls prog 174 #[.slice A n c] w fun e w'=>e= .returned (.bool (xC K zJ))∧Below w.heap.size w w':=by
 have hl:K.length=n:=by have:=hr.len;simpa using this
 have HL:=Q2 hl;have nS:=Q2 bK;clear hl bK;have nE:=fun W=>run_makeMap (P:=prog) 263 W
 have Hp:=World.ownsMap_made w prog 9 (plainElem (H:=Unit) prog 3);have Hr:Below w.heap.size w (w.alloc (.map #[] 0)):=(VB _ _).alloc (q8 _) _;go_enter func174,ntmps174;go_upto_region 2 with fail;obtain⟨mb,cx⟩:∃m,m=w.heap.size:=⟨_,rfl⟩
 rw[←cx]at Hp ⊢;have MD:=Q2 cx;clear cx nE;generalize(w.alloc (.map #[] 0))=w1 at*;go_wp2_with(with_reducible refine h_A ?_);go_loopw [9] (fun s wr=>∃(i:Nat) (D:DataW Unit),i≤n∧s= .int .i64 i∧Below w.heap.size w wr∧seenMap wr mb i D∧Hid ((∀k∈K.take i,jf k=true)∧(K.take i).Nodup∧∀s:List UInt8,D.atKey (.string s) (.lit (.int .i64 0))= .lit (.int .i64 (if s∈K.take i then 1 else 0)))) (fun s _=>n-(KS s).toNat)
 case atStart=>exact⟨0,_,by omega,rfl,Hr,Hp,Q2 ⟨by simp,by simp,fun s=>by simp;rfl⟩⟩
 clear Hr Hp;obtain⟨i,D,hi,rfl,hB,Hp,HI⟩:=hrel;by_cases hlt:i<n
 ·have g1:(i:Int)<(n:Int):=by omega
  have BE:i<K.length:=by rw[HL.out];exact hlt
  obtain⟨b,off,rfl,hC⟩:=jH hr hlt BE;have y0:=hC wr hB;have Cs:=nS.out _ (q6 BE);have mL:Hid (jf K[i]=false→xC K zJ=false):=Q2 (Ja BE);have RE:Hid (K[i]∈K.take i→xC K zJ=false):=Q2 (Yk BE);have SV:Hid (K[i]∉K.take i→(K.take (i+1)).Nodup):=Q2 (Yl BE HI.out.2.1);have CX:Hid (K.take (i+1)=K.take i++ [K[i]]):=Q2 (Vy BE);clear hC;generalize K[i]=a at*;have has:=zh a;have fU:=ZJ a;have ek:=Xy a wr Cs (hT.on hB);have tG:Hid (jf a=(decide (1≤a.length)&&decide (a.length≤255)&&zJ a)):=Q2 rfl;by_cases Eh:a.length=0
  ·have qqe7:=();exact Z3f_
  rw[decide_eq_false Eh]at fU;by_cases dD:255<a.length
  ·exact Z3e_
  have g2:¬(255:Int)<(a.length:Int):=by omega
  have mO:Hid (jf a=zJ a):=Q2 (by rw[tG.out,decide_eq_true (by omega:1≤a.length),decide_eq_true (by omega:a.length≤255)];rfl);clear Eh dD
  cases hu:zJ a
  ·exact Z3b_
  rw[hu]at ek;have Rs:Hid (jf a=true):=Q2 (by rw[mO.out,hu]);clear hu;go_wp2_with(with_reducible refine h_A ?_);refine ek.mono ?_;rintro e w2 ⟨rfl,Hc⟩;have oR:=hB.trans (Hc.mono hB.size);have Hs:=Hp.below Hc;clear ek y0 Hp Hc hB;obtain⟨cc,bv,fd,_⟩:=Hs.lookup_int (t:=263) str_keyedM underlying263 underlying3 (zeroValue3 _) (key:=.string (str a)) (kl:=.string a) (K9 Cs);rw[HI.out.2.2 a]at fd;injection fd with fd
  injection fd with _ fd
  have lZ:=Q2 fd;clear fd;by_cases hm:a∈K.take i
  ·(have ck:cc=1:=by rw[←lZ.out,if_pos hm]);have HF:=Q2 (RE.out hm);subst ck;clear hm;go_wp2_with(with_reducible refine h_A ?_);go_ret;rw[HF.out];exact⟨rfl,oR⟩
  have ck:cc=0:=by rw[←lZ.out,if_neg hm]
  have HM:=Q2 hm;subst ck;clear hm;go_wp2_with(first|(with_reducible refine JU ?_));refine zc (wpList_mapUpdate_own (H:=Unit) _ rfl _ _ _ 263 rfl 9 3 str_keyedM underlying263 (plainElem (H:=Unit) prog 3) _ _ _ rfl Hs UJ _ _ (.string a) rfl rfl (K9 Cs) (.lit (.int .i64 1)) [] (plainElem_int underlying3 WJ) ?_);intro w3 IW H7;have nD:=oR.grown H7 oR.size (fun g hg=>by injection hg with hg;have:=MD.out;omega)
  have Rw:Hid ((∀k∈K.take (i+1),jf k=true)∧(K.take (i+1)).Nodup∧∀s:List UInt8,(D.put (.string a) (.lit (.int .i64 1))).atKey (.string s) (.lit (.int .i64 0))= .lit (.int .i64 (if s∈K.take (i+1)then 1 else 0))):=Q2 (by
   refine⟨fun k hk=>?_,SV.out HM.out,fun s=>?_⟩
   ·rw[CX.out]at hk;rcases v0.1 hk with hk|hk
    ·exact HI.out.1 k hk
    ·rw[zB.1 hk];exact Rs.out
   ·by_cases hs:s=a
    ·subst hs;rw[Maps.atKey_put_same Hs.isMap (str_keyedM.key (K9 Cs)),if_pos (by rw[CX.out];simp)]
    ·rw[Maps.atKey_put_other (fun e=>hs NJ),HI.out.2.2 s,CX.out];by_cases cj:s∈K.take i
     ·rw[if_pos cj,if_pos (by simp[cj])]
     ·rw[if_neg cj,if_neg (by simp[hs,cj])])
  clear Hs bv H7;go_wp2_with(with_reducible refine h_A ?_);exact⟨⟨i+1,_,by omega,by go_num,nD,IW,Rw⟩,by simp[KS];omega⟩
 have HF:Hid (xC K zJ=true):=Q2 (by
  have h:=HI.out;rw[kI (by rw[HL.out];omega)]at h
  exact Xx h.1 h.2.1)
 exact Z5c_
def mayF(k n sl KL LL:Nat)(ko pl al:Bool):Bool:=
 (decide (k=168)||decide (KL=0))&&(decide (k=168)||decide (k=169)||decide (LL=0))&&(decide (k=149)||decide (k=160)||decide (sl=0))&&decide (sl≤4096)&&
  (if k=8 then decide (n≤1)else if k=2 then decide (n≤255)else if k=49∨k=50 then true
   else if k=240∨k=160 then decide (n=0)
   else if k=149 then pl&&decide (n=0)
   else if k=168 then decide (KL=LL)&&ko&&decide (n=0)
   else if k=169 then decide (n=0)else false)&&al
theorem ZI{α:Type}(l:List α):l.isEmpty=decide (l.length=0):=by cases l<;>simp
theorem kJ(p:List UInt8→Bool)(v:Vl):mayV p v=mayF v.kind v.n v.s.length v.keys.length v.list.length (xC v.keys p) (p v.s) (v.list.all (mayV p)):=by
 cases v;rw[mayV,zaZ,ZI,ZI,ZI];rfl
def MayR(w:World)(v:Vl)(e:Ending)(w':World):Prop:=e= .returned (.bool (mayV zJ v))∧Below w.heap.size w w'
theorem zcn(p:Vl→Bool)(bx:Nat)(v:Vl)(h:VH)(w:World)(hv:RVw w v h)(bD:∀x∈v.list,∀hx W,Below w.heap.size w W→RVw W x hx→Calls prog 175 (#[.agg (vlV x hx)]++ #[]) W (fun e W'=>e= .returned (.bool (p x))∧Below W.heap.size W W')):
  Calls prog 183 #[.slice h.A2 v.list.length h.c2,.func (.func 175) #[] #[]] w fun e w'=>(∃r:Int,e= .returned (.int .i64 r)∧decide (0≤r)=v.list.any p)∧Below w.heap.size w w':=by
 exact Z14_
theorem zco(p:Vl→Bool)(bx:Nat)(v:Vl)(h:VH)(w:World)(hv:RVw w v h)(bD:∀x∈v.list,∀hx W,Below w.heap.size w W→RVw W x hx→Calls prog 175 (#[.agg (vlV x hx)]++ #[]) W (fun e W'=>e= .returned (.bool (p x))∧Below W.heap.size W W')):
  Calls prog 171 #[.slice h.A2 v.list.length h.c2,.func (.func 175) #[] #[]] w fun e w'=>e= .returned (.bool (v.list.any p))∧Below w.heap.size w w':=by
 exact Z37_
theorem Qt(p:Vl→Bool)(l:List Vl):l.any (fun x=> !p x)= !l.all p:=by
 induction l with
 | nil=>rfl
 | cons x l ih=>rw[yA,List.all_cons,ih];cases p x<;>simp
theorem za4(x:Vl)(hx:VH)(W:World)(hv:RVw W x hx)(bP:∀W',Below W.heap.size W W'→Calls prog 149 #[.agg (vlV x hx)] W' (MayR W' x)):
  Calls prog 175 #[.agg (vlV x hx)] W fun e W'=>e= .returned (.bool (!mayV zJ x))∧Below W.heap.size W W':=by
 have qq9c:=();exact Z1u_
theorem zcp(v:Vl):∀(h:VH) (w:World),RVw w v h→UTabs w→Calls prog 149 #[.agg (vlV v h)] w (MayR w v):=by
 have qqm:=();exact Z4_
def errV(v:Vl):Int:=if xJ 6 v=true then 51 else if cntV v 200<0 then 3 else if mayV zJ v=true then 0 else 50
theorem Yj(v:Vl)(h:VH)(w:World)(hv:RVw w v h)(hT:UTabs w):Calls prog 123 #[.agg (vlV v h)] w fun e w'=>e= .returned (.int .i64 (errV v))∧Below w.heap.size w w':=by
 exact Zr_
end Go.PH
