/- Parts. -/
import Derived.Test.YtfbkameikhgciaaGreatDoorProg
import Derived.Test.YtfbkameikhgciaaGreatDoorMg01
set_option linter.all false
set_option maxRecDepth 20000
set_option maxHeartbeats 8000000
open Go.RowKit.Below renaming refl → KS
open Go.Lib renaming hid → Q1
open List renaming getElem_cons_zero → K2, getElem_toArray → Vy, setIfInBounds_toArray → Vx, set_cons_zero → q0, set_cons_succ → q5, length_append → q7, map_append → q9, dropLast_concat_getLast → kI
open Nat renaming le_refl → K0, lt_of_lt_of_le → q6
open UInt8 renaming ofNat → Q2
open Go.World renaming cell?_alloc_new → KL, block_lt_of_cell? → K1, cell?_alloc_past → VB, ownsMap_made → q8
namespace Go.PH
open Go.RowKit Go.Proofs Go.Proofs.Tryz
variable {b1 b2 b3 b4 : Bool} {ld : List UInt8} {a b ch m mb n pb tr ty v : Nat} {F : Nat → Prop} {w w' : World}
theorem yP(A:Option Addr)(n c:Nat)(l:List UInt8)(v:Nat)(x:Int)(w:World)(hb:RdB w w.heap.size A n c l)(hv:v<18446744073709551616)(hn:n≤281474976710600):
  Calls prog 63 #[.slice A n c,.int .u64 v,.int .i64 x] w fun e w'=>∃A2 c2,e= .returned (.slice A2 (puts l v x).length c2)∧Own w' w.heap.size 5 1 A2 (puts l v x).length c2 ((puts l v x).map u8v)∧Below w.heap.size w w':=by
 have hl:=hb.length;by_cases hw:qJ x=true
 ·have h8:=j9 hw;obtain⟨i,rfl⟩:∃i:Nat,x=i:=⟨x.toNat,by omega⟩
  rw[yT hw];simp only[q7,zr,Int.toNat_natCast,hl];go_enter func63,ntmps63;go_wp2_with(with_reducible refine h_A ?_);refine(qm i w).mono ?_;rw[hw];rintro e w' ⟨rfl,rfl⟩;go_wp2_with(with_reducible refine h_A ?_);refine(ke v i w' hv Wq Wq).mono ?_;rintro e w1 ⟨A1,rfl,cV,Ha⟩;go_wp2_with(with_reducible refine h_A ?_);refine(jo A n c l A1 i i (be i v) w1 ((hb.below Ha).more Ha.size) cV.rd Wq).mono ?_;rintro e w2 ⟨A2,rfl,bW,Hc⟩;go_wp2_with(with_reducible refine h_A ?_);go_ret;exact⟨A2,n+i,rfl,bW.base_le Ha.size,Ha.trans (Hc.mono Ha.size)⟩
 have nl:qJ x=false:=by simpa using hw
 rw[Kw nl];rw[hl];go_enter func63,ntmps63;go_wp2_with(with_reducible refine h_A ?_);refine(qm x w).mono ?_;rw[nl];rintro e w' ⟨rfl,rfl⟩;go_wp2_with(with_reducible refine h_A ?_);refine(jo A n c l none 0 0 [] w' hb (Rd.nil _ _ _ _ WX _) Wq).mono ?_;rintro e w2 ⟨A2,rfl,bW,Hc⟩;simp only[Nat.add_zero,List.append_nil]at bW ⊢;go_wp2_with(with_reducible refine h_A ?_);go_ret;exact⟨A2,n,rfl,bW,Hc⟩
def frV(f:Fr):Array Value:=#[.bool f.first,.bool f.last,.bool f.beg,.bool f.fin,.int .u8 (f.ty:Int),.int .u8 (f.track:Int),.int .u16 (f.chan:Int),.string (str f.load)]
theorem Zm(f:Fr)(w:World)(hw:f.wf)(hl:f.load.length≤140737488351232):
  Calls prog 62 #[.agg (frV f)] w fun e w'=>e= .returned (.int .i64 f.err)∧Below w.heap.size w w':=by
 exact Z1f_
def zbM(l:List Value):Option (DataW Unit×List MemPlace):=match l with| [.bool x]=>some (.lit (.bool x),[])|_=>none
def Zn(v:Value):Option (DataW Unit×List MemPlace):=match v with| .agg cs=>zbM cs.toList|_=>none
theorem ka:Maps.Keyed prog 5:=Maps.int_keyed underlying5
def zaD(b1 b2 b3 b4:Bool):DataW Unit:=.map [(.int .u8 1,.lit (.bool b4)),(.int .u8 2,.lit (.bool b3)),(.int .u8 4,.lit (.bool b2)),(.int .u8 8,.lit (.bool b1))]
theorem zaE(b1 b2 b3 b4:Bool):(((((DataW.map []:DataW Unit).put (.int .u8 8) (.lit (.bool b1))).put (.int .u8 4) (.lit (.bool b2))).put (.int .u8 2) (.lit (.bool b3))).put (.int .u8 1) (.lit (.bool b4)))=zaD b1 b2 b3 b4:=by rfl
theorem zaF{c:Bool}{x:Int}(h:∀zd,(zaD b1 b2 b3 b4).atKey (.int .u8 x) zd= .lit (.bool c)):(x=8∧c=b1)∨(x=4∧c=b2)∨(x=2∧c=b3)∨(x=1∧c=b4):=by
 by_cases h8:x=8
 ·subst h8;have:=h .nil;left;exact⟨rfl,by cases b1<;>cases c<;>first|rfl|cases this⟩
 by_cases h4:x=4
 ·subst h4;have:=h .nil;right;left;exact⟨rfl,by cases b2<;>cases c<;>first|rfl|cases this⟩
 by_cases h2:x=2
 ·subst h2;have:=h .nil;right;right;left;exact⟨rfl,by cases b3<;>cases c<;>first|rfl|cases this⟩
 by_cases h1:x=1
 ·subst h1;have:=h .nil;right;right;right;exact⟨rfl,by cases b4<;>cases c<;>first|rfl|cases this⟩
 have e:∀zd,(zaD b1 b2 b3 b4).atKey (.int .u8 x) zd=zd:=fun zd=>WideAt.atKey_none zd (fun p hp=>by
  simp only[List.mem_cons,List.not_mem_nil,or_false]at hp
  rcases hp with rfl|rfl|rfl|rfl<;>simp<;>omega)
 have h1:=h .nil;rw[e]at h1
 cases h1
def bsum(l8 l4 l2 l1 b1 b2 b3 b4:Bool):Nat:=bitv (!l8&&b1) 8+bitv (!l4&&b2) 4+bitv (!l2&&b3) 2+bitv (!l1&&b4) 1
theorem Y8(v:Value)(y:DataW Unit×List MemPlace)(h:Zn v=some y):∃c:Bool,v= .agg #[.bool c]∧y=(.lit (.bool c),[]):=by
 unfold Zn at h;split at h
 ·rename_i cs
  unfold zbM at h;split at h
  ·rename_i x hx
   (injection h with h);exact⟨x,by rw[←Array.toArray_toList (xs:=cs),hx],h.symm⟩
  cases h
 cases h
theorem zX{a b:Int}:(Lit.int .u8 a).sameKey (.int .u8 b)=decide (a=b):=by
 by_cases h:a=b
 ·subst h;simp[Lit.sameKey]
 simp[Lit.sameKey,h]
theorem QQ:∀(l8 l4 l2 l1 b1 b2 b3 b4:Bool),
  (l8=true→b1=true→bits .or .u8 (bsum l8 l4 l2 l1 b1 b2 b3 b4:Int) 8=(bsum false l4 l2 l1 b1 b2 b3 b4:Int))∧
  (l4=true→b2=true→bits .or .u8 (bsum l8 l4 l2 l1 b1 b2 b3 b4:Int) 4=(bsum l8 false l2 l1 b1 b2 b3 b4:Int))∧
  (l2=true→b3=true→bits .or .u8 (bsum l8 l4 l2 l1 b1 b2 b3 b4:Int) 2=(bsum l8 l4 false l1 b1 b2 b3 b4:Int))∧
  (l1=true→b4=true→bits .or .u8 (bsum l8 l4 l2 l1 b1 b2 b3 b4:Int) 1=(bsum l8 l4 l2 false b1 b2 b3 b4:Int)):=by
 decide+kernel
theorem Kz(f:Fr)(w:World):
  Calls prog 64 #[.agg (frV f)] w fun e w'=>e= .returned (.int .u8 f.flags)∧Below w.heap.size w w':=by
 obtain⟨b1,b2,b3,b4,ty,tr,ch,ld⟩:=f;unfold frV;have Hy:Below w.heap.size w (w.alloc (.cells #[.bool b1,.bool b2,.bool b3,.bool b4,.int .u8 (ty:Int),.int .u8 (tr:Int),.int .u16 (ch:Int),.string (str ld)] 97)):=(KS _ _).alloc (K0 _) _;have gV:∀i u,(#[.bool b1,.bool b2,.bool b3,.bool b4,.int .u8 (ty:Int),.int .u8 (tr:Int),.int .u16 (ch:Int),.string (str ld)]:Array Value)[i]?=some u→(w.alloc (.cells #[.bool b1,.bool b2,.bool b3,.bool b4,.int .u8 (ty:Int),.int .u8 (tr:Int),.int .u16 (ch:Int),.string (str ld)] 97)).cell? ⟨w.heap.size,i,none⟩=some u:=fun i u h=>(KL _ _ _ _).trans h
 have nE:=fun W=>run_makeMap (P:=prog) 183 W
 have c0:=gV 0 _ rfl;have c1:=gV 1 _ rfl;have c2:=gV 2 _ rfl;have c3:=gV 3 _ rfl;clear gV;go_enter func64,ntmps64
 have H4:((w.alloc (.cells #[.bool b1,.bool b2,.bool b3,.bool b4,.int .u8 (ty:Int),.int .u8 (tr:Int),.int .u16 (ch:Int),.string (str ld)] 97)).alloc (.map #[] 0)).ownsMap prog 5 Zn (w.heap.size+1) 0 (.map []):=by
  have:=q8 (w.alloc (.cells #[.bool b1,.bool b2,.bool b3,.bool b4,.int .u8 (ty:Int),.int .u8 (tr:Int),.int .u16 (ch:Int),.string (str ld)] 97)) prog 5 Zn;rwa[show(w.alloc (.cells #[.bool b1,.bool b2,.bool b3,.bool b4,.int .u8 (ty:Int),.int .u8 (tr:Int),.int .u16 (ch:Int),.string (str ld)] 97)).heap.size=w.heap.size+1 by simp]at this
 have Ha:Below w.heap.size w ((w.alloc (.cells #[.bool b1,.bool b2,.bool b3,.bool b4,.int .u8 (ty:Int),.int .u8 (tr:Int),.int .u16 (ch:Int),.string (str ld)] 97)).alloc (.map #[] 0)):=Hy.alloc Hy.size _;have si:w.heap.size<(w.alloc (.cells #[.bool b1,.bool b2,.bool b3,.bool b4,.int .u8 (ty:Int),.int .u8 (tr:Int),.int .u16 (ch:Int),.string (str ld)] 97)).heap.size:=by simp
 have d1:=(VB (w:=w.alloc (.cells #[.bool b1,.bool b2,.bool b3,.bool b4,.int .u8 (ty:Int),.int .u8 (tr:Int),.int .u16 (ch:Int),.string (str ld)] 97)) (.map #[] 0) _ _ si).trans c1;have d2:=(VB (w:=w.alloc (.cells #[.bool b1,.bool b2,.bool b3,.bool b4,.int .u8 (ty:Int),.int .u8 (tr:Int),.int .u16 (ch:Int),.string (str ld)] 97)) (.map #[] 0) _ _ si).trans c2;have d3:=(VB (w:=w.alloc (.cells #[.bool b1,.bool b2,.bool b3,.bool b4,.int .u8 (ty:Int),.int .u8 (tr:Int),.int .u16 (ch:Int),.string (str ld)] 97)) (.map #[] 0) _ _ si).trans c3;go_wp2_with(with_reducible refine h_M ?_);refine zc (zm (H:=Unit) _ rfl _ _ _ 183 rfl 5 182 ka underlying183 Zn _ _ _ rfl H4 WX _ _ (.int .u8 8) rfl rfl (Maps.keyOf_int_mk underlying5 WJ) (.lit (.bool b1)) [] rfl ?_);intro w2 Bj Hm;have hne:some w.heap.size=some (w.heap.size+1)→False:=fun e=>by injection e with e;omega
 have Hc:=Ha.grown Hm Ha.size Wx;have e1:=Hm.cell d1 hne;have e2:=Hm.cell d2 hne;have e3:=Hm.cell d3 hne;clear d1 d2 d3 c0 c1 c2 c3;go_wp2_with(with_reducible refine h_M ?_);refine zc (zm (H:=Unit) _ rfl _ _ _ 183 rfl 5 182 ka underlying183 Zn _ _ _ rfl Bj WX _ _ (.int .u8 4) rfl rfl (Maps.keyOf_int_mk underlying5 WJ) (.lit (.bool b2)) [] rfl ?_);intro w3 C4 H6;have Hh:=Hc.grown H6 Hc.size Wx;have f2:=H6.cell e2 hne;have f3:=H6.cell e3 hne;clear e1 e2 e3 Bj Hm;go_wp2_with(with_reducible refine h_M ?_);refine zc (zm (H:=Unit) _ rfl _ _ _ 183 rfl 5 182 ka underlying183 Zn _ _ _ rfl C4 WX _ _ (.int .u8 2) rfl rfl (Maps.keyOf_int_mk underlying5 WJ) (.lit (.bool b3)) [] rfl ?_);intro w4 DK Ba;have Hn:=Hh.grown Ba Hh.size Wx;have g3:=Ba.cell f3 hne;clear f2 f3 C4 H6;go_wp2_with(with_reducible refine h_M ?_);refine zc (zm (H:=Unit) _ rfl _ _ _ 183 rfl 5 182 ka underlying183 Zn _ _ _ rfl DK WX _ _ (.int .u8 1) rfl rfl (Maps.keyOf_int_mk underlying5 WJ) (.lit (.bool b4)) [] rfl ?_);intro w5 Bp H9;have bw:=Hn.grown H9 Hn.size Wx;clear g3 DK Ba H9 Hn Hh Hc Ha Hy H4;rw[zaE]at Bp;have cT:w.heap.size+1<w5.heap.size:=Bp.lt;go_wp2_with(with_reducible refine h_M ?_);refine zc (wpList_range_own (H:=Unit) _ rfl _ 183 rfl 5 182 ka underlying183 Zn _ _ _ rfl Bp ?_);intro w6 PA bz Cn;have bG:=bw.grown bz bw.size (fun g hg=>by cases hg);go_frame;go_wp2_with(with_reducible refine h_A ?_);try go_frame
 go_loopw [3] (fun s wr=>∃(left:Lit→Bool) (cnt:Nat) (l8 l4 l2 l1:Bool) (m:Nat),left (.int .u8 8)=l8∧left (.int .u8 4)=l4∧left (.int .u8 2)=l2∧left (.int .u8 1)=l1∧s= .int .u8 m∧m=bsum l8 l4 l2 l1 b1 b2 b3 b4∧wr.ranges prog 5 Zn (w.heap.size+1) w5.heap.size 4 (zaD b1 b2 b3 b4) left cnt∧Below w.heap.size w wr) (fun _ wr=>wr.rangeLeft (w.heap.size+1) w5.heap.size)
 case atStart=>exact⟨_,_,true,true,true,true,0,rfl,rfl,rfl,rfl,rfl,rfl,PA,bG⟩
 obtain⟨left,cnt,l8,l4,l2,l1,m,ss,wl,cN,gf,rfl,hm,mE,bP⟩:=hrel;have HM:=Q1 hm;clear hm;go_wp2_with(with_reducible refine h_M ?_);refine zc (wpList_next_ranges (H:=Unit) (α:=Int) (β:=Bool) _ rfl _ rfl 5 ka Zn (Value.int .u8) (fun x=>.agg #[.bool x]) (fun key kl hk=>by obtain⟨x,rfl,_⟩:=Maps.keyOf_int_inv underlying5 hk;exact⟨x,rfl⟩) (fun v y hv=>by obtain⟨c,rfl,_⟩:=Y8 v y hv;exact⟨c,rfl⟩) _ _ _ _ _ _ rfl mE ?_ ?_)
 ·intro _ fD
  have AR:m=Fr.flags ⟨b1,b2,b3,b4,ty,tr,ch,ld⟩:=by
   rw[HM.out,←ss,←wl,←cN,←gf,fD,fD,fD,fD];simp[bsum,Fr.flags]
  have HF:=Q1 AR;clear AR;go_wp2_with(with_reducible refine h_A ?_);go_ret;rw[←HF.out];exact⟨rfl,bP⟩
 intro x c kl y w7 oo eL CO hy eY RJ iW H7 u7 Bc;obtain⟨x',ex,rfl,gG⟩:=Maps.keyOf_int_inv underlying5 eL
 cases ex;obtain⟨c',ec,rfl⟩:=Y8 _ _ hy;obtain rfl:c'=c:=by simpa using ec.symm
 have Bn:=bP.grown H7 bP.size Wx;have Bf:Below w.heap.size w (w7.alloc (.cells #[.bool c'] 182)):=Bn.alloc Bn.size _;have fU:=RJ.alloc (.cells #[.bool c'] 182);have Ms:=zaF eY;clear eY hy ec eL;rcases Ms with⟨rfl,Bm⟩|⟨rfl,Bm⟩|⟨rfl,Bm⟩|⟨rfl,Bm⟩
 ·skip
  have hlt:l8=true:=by rw[←ss];exact CO
  clear CO;subst hlt
  cases c'
  ·(have fM:m=bsum false l4 l2 l1 b1 b2 b3 b4:=by rw[HM.out,←Bm];simp[bsum,bitv]);have HS:=Q1 fM;clear fM Bm;go_wp2_with(with_reducible refine h_A ?_);refine⟨⟨_,oo,false,l4,l2,l1,m,by simp[zX,ss],by simp[zX,wl],by simp[zX,cN],by simp[zX,gf],rfl,HS.out,fU,Bf⟩,?_⟩;rw[fU.left_eq,mE.left_eq];exact iW
  have fY:=(QQ true l4 l2 l1 b1 b2 b3 b4 |>.1) rfl Bm.symm;rw[←HM.out]at fY;obtain⟨m2,dZ⟩:∃m2,m2=bsum false l4 l2 l1 b1 b2 b3 b4:=⟨_,rfl⟩
  rw[←dZ]at fY;have HS:=Q1 dZ;clear dZ Bm;go_wp2_with(with_reducible refine h_A ?_);refine⟨⟨_,oo,false,l4,l2,l1,m2,by simp[zX,ss],by simp[zX,wl],by simp[zX,cN],by simp[zX,gf],by first|rfl|(simp;done)|(simp[fY];done),HS.out,fU,Bf⟩,?_⟩;rw[fU.left_eq,mE.left_eq];exact iW
 ·skip
  have hlt:l4=true:=by rw[←wl];exact CO
  clear CO;subst hlt
  cases c'
  ·(have fM:m=bsum l8 false l2 l1 b1 b2 b3 b4:=by rw[HM.out,←Bm];simp[bsum,bitv]);have HS:=Q1 fM;clear fM Bm;go_wp2_with(with_reducible refine h_A ?_);refine⟨⟨_,oo,l8,false,l2,l1,m,by simp[zX,ss],by simp[zX,wl],by simp[zX,cN],by simp[zX,gf],rfl,HS.out,fU,Bf⟩,?_⟩;rw[fU.left_eq,mE.left_eq];exact iW
  have fY:=(QQ l8 true l2 l1 b1 b2 b3 b4 |>.2.1) rfl Bm.symm;rw[←HM.out]at fY;obtain⟨m2,dZ⟩:∃m2,m2=bsum l8 false l2 l1 b1 b2 b3 b4:=⟨_,rfl⟩
  rw[←dZ]at fY;have HS:=Q1 dZ;clear dZ Bm;go_wp2_with(with_reducible refine h_A ?_);refine⟨⟨_,oo,l8,false,l2,l1,m2,by simp[zX,ss],by simp[zX,wl],by simp[zX,cN],by simp[zX,gf],by first|rfl|(simp;done)|(simp[fY];done),HS.out,fU,Bf⟩,?_⟩;rw[fU.left_eq,mE.left_eq];exact iW
 ·skip
  have hlt:l2=true:=by rw[←cN];exact CO
  clear CO;subst hlt
  cases c'
  ·(have fM:m=bsum l8 l4 false l1 b1 b2 b3 b4:=by rw[HM.out,←Bm];simp[bsum,bitv]);have HS:=Q1 fM;clear fM Bm;go_wp2_with(with_reducible refine h_A ?_);refine⟨⟨_,oo,l8,l4,false,l1,m,by simp[zX,ss],by simp[zX,wl],by simp[zX,cN],by simp[zX,gf],rfl,HS.out,fU,Bf⟩,?_⟩;rw[fU.left_eq,mE.left_eq];exact iW
  have fY:=(QQ l8 l4 true l1 b1 b2 b3 b4 |>.2.2.1) rfl Bm.symm;rw[←HM.out]at fY;obtain⟨m2,dZ⟩:∃m2,m2=bsum l8 l4 false l1 b1 b2 b3 b4:=⟨_,rfl⟩
  rw[←dZ]at fY;have HS:=Q1 dZ;clear dZ Bm;go_wp2_with(with_reducible refine h_A ?_);refine⟨⟨_,oo,l8,l4,false,l1,m2,by simp[zX,ss],by simp[zX,wl],by simp[zX,cN],by simp[zX,gf],by first|rfl|(simp;done)|(simp[fY];done),HS.out,fU,Bf⟩,?_⟩;rw[fU.left_eq,mE.left_eq];exact iW
 skip
 have hlt:l1=true:=by rw[←gf];exact CO
 clear CO;subst hlt
 cases c'
 ·have fM:m=bsum l8 l4 l2 false b1 b2 b3 b4:=by rw[HM.out,←Bm];simp[bsum,bitv]
  have HS:=Q1 fM;clear fM Bm;go_wp2_with(with_reducible refine h_A ?_);refine⟨⟨_,oo,l8,l4,l2,false,m,by simp[zX,ss],by simp[zX,wl],by simp[zX,cN],by simp[zX,gf],rfl,HS.out,fU,Bf⟩,?_⟩;rw[fU.left_eq,mE.left_eq];exact iW
 have fY:=(QQ l8 l4 l2 true b1 b2 b3 b4 |>.2.2.2) rfl Bm.symm;rw[←HM.out]at fY;obtain⟨m2,dZ⟩:∃m2,m2=bsum l8 l4 l2 false b1 b2 b3 b4:=⟨_,rfl⟩
 rw[←dZ]at fY;have HS:=Q1 dZ;clear dZ Bm;go_wp2_with(with_reducible refine h_A ?_);refine⟨⟨_,oo,l8,l4,l2,false,m2,by simp[zX,ss],by simp[zX,wl],by simp[zX,cN],by simp[zX,gf],by first|rfl|(simp;done)|(simp[fY];done),HS.out,fU,Bf⟩,?_⟩;rw[fU.left_eq,mE.left_eq];exact iW
theorem jy{bx:Nat}{row:Option Nat}(h:w.cell? ⟨bx,0,none⟩=some (.bool b1)∧w.cell? ⟨bx,1,none⟩=some (.bool b2)∧w.cell? ⟨bx,2,none⟩=some (.bool b3)∧w.cell? ⟨bx,3,none⟩=some (.bool b4)∧w.cell? ⟨bx,4,none⟩=some (.int .u8 (ty:Int))∧w.cell? ⟨bx,5,none⟩=some (.int .u8 (tr:Int))∧w.cell? ⟨bx,6,none⟩=some (.int .u16 (ch:Int))∧w.cell? ⟨bx,7,none⟩=some (.string (str ld)))(hg:w.grownBy w' row)(hne:some bx=row→False):w'.cell? ⟨bx,0,none⟩=some (.bool b1)∧w'.cell? ⟨bx,1,none⟩=some (.bool b2)∧w'.cell? ⟨bx,2,none⟩=some (.bool b3)∧w'.cell? ⟨bx,3,none⟩=some (.bool b4)∧w'.cell? ⟨bx,4,none⟩=some (.int .u8 (ty:Int))∧w'.cell? ⟨bx,5,none⟩=some (.int .u8 (tr:Int))∧w'.cell? ⟨bx,6,none⟩=some (.int .u16 (ch:Int))∧w'.cell? ⟨bx,7,none⟩=some (.string (str ld)):=by
 obtain⟨h0,h1,h2,h3,h4,h5,h6,h7⟩:=h;exact⟨hg.cell h0 hne,hg.cell h1 hne,hg.cell h2 hne,hg.cell h3 hne,hg.cell h4 hne,hg.cell h5 hne,hg.cell h6 hne,hg.cell h7 hne⟩
theorem zaG(h:Below w.heap.size w w'):w.grownBy w' none:=⟨h.os,h.tape,h.output,h.size,fun k hk _=>h.block k hk⟩
theorem yX{bx:Nat}(h:w.cell? ⟨bx,0,none⟩=some (.bool b1)∧w.cell? ⟨bx,1,none⟩=some (.bool b2)∧w.cell? ⟨bx,2,none⟩=some (.bool b3)∧w.cell? ⟨bx,3,none⟩=some (.bool b4)∧w.cell? ⟨bx,4,none⟩=some (.int .u8 (ty:Int))∧w.cell? ⟨bx,5,none⟩=some (.int .u8 (tr:Int))∧w.cell? ⟨bx,6,none⟩=some (.int .u16 (ch:Int))∧w.cell? ⟨bx,7,none⟩=some (.string (str ld)))(hB:Below w.heap.size w w'):w'.cell? ⟨bx,0,none⟩=some (.bool b1)∧w'.cell? ⟨bx,1,none⟩=some (.bool b2)∧w'.cell? ⟨bx,2,none⟩=some (.bool b3)∧w'.cell? ⟨bx,3,none⟩=some (.bool b4)∧w'.cell? ⟨bx,4,none⟩=some (.int .u8 (ty:Int))∧w'.cell? ⟨bx,5,none⟩=some (.int .u8 (tr:Int))∧w'.cell? ⟨bx,6,none⟩=some (.int .u16 (ch:Int))∧w'.cell? ⟨bx,7,none⟩=some (.string (str ld)):=jy h (zaG hB) Wz
theorem KA:(fun bx wx=>wx.cell? ⟨bx,0,none⟩=some (.bool b1)∧wx.cell? ⟨bx,1,none⟩=some (.bool b2)∧wx.cell? ⟨bx,2,none⟩=some (.bool b3)∧wx.cell? ⟨bx,3,none⟩=some (.bool b4)∧wx.cell? ⟨bx,4,none⟩=some (.int .u8 (ty:Int))∧wx.cell? ⟨bx,5,none⟩=some (.int .u8 (tr:Int))∧wx.cell? ⟨bx,6,none⟩=some (.int .u16 (ch:Int))∧wx.cell? ⟨bx,7,none⟩=some (.string (str ld))) w.heap.size (w.alloc (.cells #[.bool b1,.bool b2,.bool b3,.bool b4,.int .u8 (ty:Int),.int .u8 (tr:Int),.int .u16 (ch:Int),.string (str ld)] 97)):=
 ⟨KL _ _ _ _,KL _ _ _ _,KL _ _ _ _,KL _ _ _ _,KL _ _ _ _,KL _ _ _ _,KL _ _ _ _,KL _ _ _ _⟩
theorem zcY{b:List UInt8}:puts b v 2=b++be 2 v:=yT WJ
theorem zdy{b:List UInt8}:puts b v 4=b++be 4 v:=yT WJ
theorem JA(h:v<256):(.int .u8 (v:Int):Value)=u8v (Q2 v):=by simp[u8v];omega
theorem zaH(f:Fr)(w:World)(hw:f.wf)(hl:f.load.length≤140737488351232):
  Calls prog 45 #[.agg (frV f)] w fun e w'=>∃A2 c2,e= .returned (.tuple #[.slice A2 f.put.length c2,.int .i64 f.err])∧Own w' w.heap.size 5 1 A2 f.put.length c2 (f.put.map u8v)∧Below w.heap.size w w':=by
 have b7:=fun W=>Zm f W hw hl
 have dl:=fun W=>Kz f W
 have Ea:=f.flags_lt
 cases bJ:f.ok
 ·exact Z29_
 have e1:f.put=f.bytes:=by simp[Fr.put,bJ]
 have e2:f.err=0:=by simp[Fr.err,bJ]
 have BC:f.load.length≤4084:=by simp[Fr.ok]at bJ;omega
 have mm:Hid (f.bytes=((([Q2 f.flags,Q2 f.ty]++be 2 (12+f.load.length))++ [0,Q2 f.track])++be 2 f.chan)++be 4 0++f.load):=Q1 (by rw[Fr.bytes];simp only[List.append_assoc];rfl);rw[e1,e2];rw[e2]at b7;clear bJ e1 e2 hl;generalize f.flags=fl at*;generalize dT:f.bytes=by_ at*;clear dT;obtain⟨b1,b2,b3,b4,ty,tr,ch,ld⟩:=f;unfold frV at b7 dl ⊢;obtain⟨mh,lm,gD⟩:=hw;simp only at b7 BC mm mh lm gD dl;have Hy:Below w.heap.size w (w.alloc (.cells #[.bool b1,.bool b2,.bool b3,.bool b4,.int .u8 (ty:Int),.int .u8 (tr:Int),.int .u16 (ch:Int),.string (str ld)] 97)):=(KS _ _).alloc (K0 _) _;have cY:=KA (w:=w) (b1:=b1) (b2:=b2) (b3:=b3) (b4:=b4) (ty:=ty) (tr:=tr) (ch:=ch) (ld:=ld);simp only at cY;have dD:=zi ld;go_enter func45,ntmps45;go_wp2_with(with_reducible refine h_A ?_);refine(b7 _).mono ?_;rintro e w1 ⟨rfl,Ha⟩;have Hc:=Hy.trans (Ha.mono Hy.size);have bK:=yX cY Ha;clear cY Hy Ha b7;have Cg:IntKind.i64.wrap (12+(ld.length:Int))=((12+ld.length:Nat):Int):=by rw[IntWalk.i64_in _ ⟨by omega,by omega⟩];omega
 have Eb:IntKind.u64.wrap ((12+ld.length:Nat):Int)=((12+ld.length:Nat):Int):=IntWalk.u64_in _ ⟨by omega,by omega⟩;obtain⟨sf,pG⟩:∃sf,sf=12+ld.length:=⟨_,rfl⟩
 rw[←pG]at Cg Eb mm;have hL:=Q1 pG;have v9:sf<65536:=by omega
 clear pG;have BG:w1.drew.cell? ⟨w.heap.size,0,none⟩=some (.bool b1)∧w1.drew.cell? ⟨w.heap.size,1,none⟩=some (.bool b2)∧w1.drew.cell? ⟨w.heap.size,2,none⟩=some (.bool b3)∧w1.drew.cell? ⟨w.heap.size,3,none⟩=some (.bool b4)∧w1.drew.cell? ⟨w.heap.size,4,none⟩=some (.int .u8 (ty:Int))∧w1.drew.cell? ⟨w.heap.size,5,none⟩=some (.int .u8 (tr:Int))∧w1.drew.cell? ⟨w.heap.size,6,none⟩=some (.int .u16 (ch:Int))∧w1.drew.cell? ⟨w.heap.size,7,none⟩=some (.string (str ld)):=bK;go_wp2_with(with_reducible refine h_A ?_);refine zt (fun wx=>wx.cell? ⟨w.heap.size,0,none⟩=some (.bool b1)∧wx.cell? ⟨w.heap.size,1,none⟩=some (.bool b2)∧wx.cell? ⟨w.heap.size,2,none⟩=some (.bool b3)∧wx.cell? ⟨w.heap.size,3,none⟩=some (.bool b4)∧wx.cell? ⟨w.heap.size,4,none⟩=some (.int .u8 (ty:Int))∧wx.cell? ⟨w.heap.size,5,none⟩=some (.int .u8 (tr:Int))∧wx.cell? ⟨w.heap.size,6,none⟩=some (.int .u16 (ch:Int))∧wx.cell? ⟨w.heap.size,7,none⟩=some (.string (str ld))) Wj ?_;refine rg_t 0 BG ?_;simp only[Vy,K2,Act.put,Vx,q0,q5];refine rg_t 2 BG ?_;simp only[g_S];refine rg_t 3 BG ?_;simp only[g_S];refine rg_t 5 BG ?_;simp only[g_S];refine rg_t 6 BG ?_;simp only[g_S];refine rg_t 7 BG ?_;simp only[g_S];refine rg_t 8 BG ?_;simp only[g_S];refine rg_t 9 BG ?_;simp only[g_S];refine zj 1 rfl Wj rfl (fun K hK=>?_);go_simp;refine(dl w1.drew).mono ?_;rintro e w2 ⟨rfl,ie⟩;have Hh:=(za Hc 1).trans (ie.mono Hc.size);have BI:=yX BG ie;refine hK _ _ BI ?_;clear hK K;have ep:w.heap.size+1≤w2.heap.size:=K1 _ _ BI.1
 have Dl:Own (w2.alloc (.cells #[.int .u8 (fl:Int),.int .u8 (ty:Int)] 5)) (w.heap.size+1) 5 1 (some ⟨w2.heap.size,0,none⟩) 2 2 ([Q2 fl,Q2 ty].map u8v):=by
  have h:=yn (w:=w2) (w.heap.size+1) #[.int .u8 (fl:Int),.int .u8 (ty:Int)] 5 2 ep WX rfl (size:=1) Wq;rw[JA (show fl<256 by omega),JA mh]at h ⊢;exact h
 have Hn:Below w.heap.size w (w2.alloc (.cells #[.int .u8 (fl:Int),.int .u8 (ty:Int)] 5)):=Hh.alloc Hh.size _;have tY:=yX BI ((KS w2.heap.size w2).alloc (K0 _) (.cells #[.int .u8 (fl:Int),.int .u8 (ty:Int)] 5));have lz:=yP (some ⟨w2.heap.size,0,none⟩) 2 2 [Q2 fl,Q2 ty] sf 2 _ Dl.rd Wq Wq;rw[zcY]at lz;have gf:([Q2 fl,Q2 ty]++be 2 sf).length=4:=by simp[zr]
 rw[gf]at lz;generalize [Q2 fl,Q2 ty]++be 2 sf=o1 at*;refine zj 4 rfl Wj rfl (fun K hK=>?_);go_simp;refine hK _ _ tY ?_;clear hK K;refine zj 10 rfl Wj rfl (fun K hK=>?_);go_simp;refine lz.mono ?_;rintro e w5 ⟨A5,c5,rfl,ct,hBp⟩;have bw:=Hn.trans (hBp.mono Hn.size);have BN:=yX tY hBp;have fT:w.heap.size+1≤w5.heap.size:=K1 _ _ BN.1;have lF:=ct.base_le (show w.heap.size+1≤(w2.alloc (.cells #[.int .u8 (fl:Int),.int .u8 (ty:Int)] 5)).heap.size by simp;omega);refine hK _ _ BN ?_;clear hK K;refine rg_t 11 BN ?_;simp only[g_S];refine zz Wj ?_;clear lz Dl Hn tY BI BG bK Hh hBp ct Hc;have oR:w5.drew.cell? ⟨w.heap.size,0,none⟩=some (.bool b1)∧w5.drew.cell? ⟨w.heap.size,1,none⟩=some (.bool b2)∧w5.drew.cell? ⟨w.heap.size,2,none⟩=some (.bool b3)∧w5.drew.cell? ⟨w.heap.size,3,none⟩=some (.bool b4)∧w5.drew.cell? ⟨w.heap.size,4,none⟩=some (.int .u8 (ty:Int))∧w5.drew.cell? ⟨w.heap.size,5,none⟩=some (.int .u8 (tr:Int))∧w5.drew.cell? ⟨w.heap.size,6,none⟩=some (.int .u16 (ch:Int))∧w5.drew.cell? ⟨w.heap.size,7,none⟩=some (.string (str ld)):=BN;have IK:Own w5.drew (w.heap.size+1) 5 1 A5 4 c5 (o1.map u8v):=lF;have DZ:=za bw 1;go_wp2_with(with_reducible refine h_A ?_);refine zt (fun wx=>wx.cell? ⟨w.heap.size,0,none⟩=some (.bool b1)∧wx.cell? ⟨w.heap.size,1,none⟩=some (.bool b2)∧wx.cell? ⟨w.heap.size,2,none⟩=some (.bool b3)∧wx.cell? ⟨w.heap.size,3,none⟩=some (.bool b4)∧wx.cell? ⟨w.heap.size,4,none⟩=some (.int .u8 (ty:Int))∧wx.cell? ⟨w.heap.size,5,none⟩=some (.int .u8 (tr:Int))∧wx.cell? ⟨w.heap.size,6,none⟩=some (.int .u16 (ch:Int))∧wx.cell? ⟨w.heap.size,7,none⟩=some (.string (str ld))) Wj ?_;refine rg_t 0 oR ?_;simp only[Vy,K2,Act.put,Vx,q0,q5];refine rg_t 1 oR ?_;simp only[g_S];refine rg_t 2 oR ?_;simp only[g_S];refine rg_t 5 oR ?_;simp only[g_S];refine rg_t 6 oR ?_;simp only[g_S];have II:IntKind.u64.wrap ((ch:Nat):Int)=(ch:Int):=IntWalk.u64_in _ ⟨by omega,by omega⟩;refine rg_t 7 oR ?_;simp only[g_S]
 have Dt:Own (w5.drew.alloc (.cells #[.int .u8 0,.int .u8 (tr:Int)] 5)) (w.heap.size+1) 5 1 (some ⟨w5.heap.size,0,none⟩) 2 2 ([0,Q2 tr].map u8v):=by
  have h:=yn (w:=w5.drew) (w.heap.size+1) #[.int .u8 0,.int .u8 (tr:Int)] 5 2 fT WX rfl (size:=1) Wq;rw[JA lm]at h ⊢;exact h
 have bG:Below w.heap.size w (w5.drew.alloc (.cells #[.int .u8 0,.int .u8 (tr:Int)] 5)):=DZ.alloc DZ.size _;have bY:=yX oR ((KS w5.drew.heap.size w5.drew).alloc (K0 _) (.cells #[.int .u8 0,.int .u8 (tr:Int)] 5));have Aq:Own (w5.drew.alloc (.cells #[.int .u8 0,.int .u8 (tr:Int)] 5)) (w.heap.size+1) 5 1 A5 4 c5 (o1.map u8v):=IK.alloc _;refine zj 3 rfl Wj rfl (fun K hK=>?_);go_simp;refine hK _ _ bY ?_;clear hK K;refine zj 4 rfl Wj rfl (fun K hK=>?_);have fc:w.heap.size+1≤(w5.drew.alloc (.cells #[.int .u8 0,.int .u8 (tr:Int)] 5)).heap.size:=K1 _ _ bY.1;refine jL (ops:=#[]) (w:=w5.drew.alloc (.cells #[.int .u8 0,.int .u8 (tr:Int)] 5)) slB underlying55 rfl rfl rfl Aq Dt.rd (zM _) Wq WX fc ?_;intro A7 c7 w7 dI H7 _;have Bn:=bG.grown H7 bG.size (fun g hg=>by have:=(Aq.blk_lt hg).1;omega);have po:=jy bY H7 (fun e=>by have:=(Aq.blk_lt e.symm).1;omega);rw[←q9]at dI;have uv:w.heap.size+1≤w7.heap.size:=K1 _ _ po.1;have fW:=yP A7 6 c7 (o1++ [0,Q2 tr]) ch 2 w7 dI.rd Wq Wq;rw[zcY]at fW;have cN:(o1++ [0,Q2 tr]++be 2 ch).length=8:=by simp[zr,gf]
 rw[cN]at fW;clear gf;generalize o1++ [0,Q2 tr]++be 2 ch=o3 at*;simp only[g_S];refine hK _ _ po ?_;clear hK K;refine zj 8 rfl Wj rfl (fun K hK=>?_);go_simp;refine fW.mono ?_;rintro e w8 ⟨A8,c8,rfl,dP,hBp⟩;have Bf:=Bn.trans (hBp.mono Bn.size);have cE:=yX po hBp;have Dw:w.heap.size+1≤w8.heap.size:=K1 _ _ cE.1;have Pt:=dP.base_le uv;refine hK _ _ cE ?_;clear hK K;refine rg_t 9 cE ?_;simp only[g_S];refine zz Wj ?_;clear fW Dt Aq dI H7 po Bn bY bG IK oR DZ lF bw BN hBp dP fc;have Cf:w8.drew.cell? ⟨w.heap.size,0,none⟩=some (.bool b1)∧w8.drew.cell? ⟨w.heap.size,1,none⟩=some (.bool b2)∧w8.drew.cell? ⟨w.heap.size,2,none⟩=some (.bool b3)∧w8.drew.cell? ⟨w.heap.size,3,none⟩=some (.bool b4)∧w8.drew.cell? ⟨w.heap.size,4,none⟩=some (.int .u8 (ty:Int))∧w8.drew.cell? ⟨w.heap.size,5,none⟩=some (.int .u8 (tr:Int))∧w8.drew.cell? ⟨w.heap.size,6,none⟩=some (.int .u16 (ch:Int))∧w8.drew.cell? ⟨w.heap.size,7,none⟩=some (.string (str ld)):=cE;have Ru:Own w8.drew (w.heap.size+1) 5 1 A8 8 c8 (o3.map u8v):=Pt;have Ni:=za Bf 1;have pp:=yP A8 8 c8 o3 0 4 w8.drew Ru.rd Wq Wq;rw[zdy]at pp;have o9:(o3++be 4 0).length=12:=by simp[zr,cN]
 rw[o9]at pp;clear cN;go_wp2_with(with_reducible refine h_A ?_);refine zt (fun wx=>wx.cell? ⟨w.heap.size,0,none⟩=some (.bool b1)∧wx.cell? ⟨w.heap.size,1,none⟩=some (.bool b2)∧wx.cell? ⟨w.heap.size,2,none⟩=some (.bool b3)∧wx.cell? ⟨w.heap.size,3,none⟩=some (.bool b4)∧wx.cell? ⟨w.heap.size,4,none⟩=some (.int .u8 (ty:Int))∧wx.cell? ⟨w.heap.size,5,none⟩=some (.int .u8 (tr:Int))∧wx.cell? ⟨w.heap.size,6,none⟩=some (.int .u16 (ch:Int))∧wx.cell? ⟨w.heap.size,7,none⟩=some (.string (str ld))) Wj ?_;refine rg_t 0 Cf ?_;simp only[Vy,K2,Act.put,Vx,q0,q5];refine rg_t 2 Cf ?_;simp only[g_S];refine rg_t 3 Cf ?_;simp only[g_S];refine zj 1 rfl Wj rfl (fun K hK=>?_);go_simp;refine pp.mono ?_;rintro e w9 ⟨A9,c9,rfl,dt,hBp⟩;have Bl:=Ni.trans (hBp.mono Ni.size);have iD:=yX Cf hBp;have iJ:w.heap.size+1≤w9.heap.size:=K1 _ _ iD.1;have Gb:=dt.base_le Dw;refine hK _ _ iD ?_;clear hK K;refine zj 4 rfl Wj rfl (fun K hK=>?_);refine Jz slB underlying9 rfl rfl rfl Gb Wq iJ ?_;intro nG c10 rU eV ed;have nP:=Bl.grown ed Bl.size (fun g hg=>by have:=(Gb.blk_lt hg).1;omega);have Fd:=jy iD ed (fun e=>by have:=(Gb.blk_lt e.symm).1;omega);rw[←q9]at eV;have tU:=eV.base_le (Nat.le_succ _);have oc:by_.length=12+ld.length:=by rw[mm.out,q7,o9]
 have Mc:=Q1 oc;clear oc o9;simp only[g_S];refine hK _ _ Fd ?_;clear hK K;refine rg_t 5 Fd ?_;simp only[g_S];refine rg_t 6 Fd ?_;simp only[g_S];refine zz Wj ?_;exact Z5j_
def gkV(c t:Nat):Value:=.agg #[.int .i64 (c:Int),.int .i64 (t:Int)]
def gkL(c t:Nat):Lit:=.string (keyBytes [.int .i64 (c:Int),.int .i64 (t:Int)])
theorem zb1:(match prog.underlying 156 with|some (.array _ _)|some (.struct _)=>true|_=>false)=true:=by rw[underlying156]
theorem zaA:laidOutB prog=true:=by kernel_rfl
theorem zbJ:(156:TypeId)<prog.types.size:=of_decide_eq_true Wj
theorem zcW:WideMaps.KeyLaw prog 156:=deep_law_laid zaA (m:=3) Wq zbJ Wj zb1
theorem gk_keyed:Maps.Keyed prog 156:=Maps.Keyed.of_law zcW
theorem zbK(h:a<65536):(Lit.int .i64 (a:Int)).wf=true:=by
 have e1:IntKind.i64.min= -9223372036854775808:=by decide
 have e2:IntKind.i64.max=9223372036854775807:=by decide
 simp only[Lit.wf,e1,e2,Bool.and_eq_true,decide_eq_true_eq];omega
theorem vN(ha:a<65536)(hb:b<65536):keyOf prog 156 (gkV a b)=some (gkL a b):=by
 have h1:=zbK ha;have h2:=zbK hb;have hf:(gkV a b).formed prog 156=true:=by simp[gkV,Value.formed,underlying156];kernel_rfl
 have hk:prog.keyType 156=true:=by kernel_rfl
 have hc:prog.cellsOf 156=2:=by kernel_rfl
 have ca:prog.cellsOf 3=1:=by kernel_rfl
 obtain⟨m,hm⟩:∃m,prog.types.size=m+1:=⟨prog.types.size-1,(Nat.succ_pred_eq_of_pos (Nat.lt_of_le_of_lt (Nat.zero_le _) zbJ)).symm⟩
 unfold keyOf;rw[underlying156];simp only[hk,hf,Bool.and_self,if_true,hm];simp[Program.keyLits,underlying156,underlying3,hc,ca,gkV,Value.cells,h1,h2,List.range,List.range.loop,gkL]
theorem zb2{c d:Nat}(ha:a<65536)(hb:b<65536)(hc:c<65536)(hd:d<65536)(h:gkL a b=gkL c d):a=c∧b=d:=by
 have h1:=vN ha hb;have h2:=vN hc hd;rw[h]at h1;have e:=gk_keyed.inj h1 h2;simp[gkV]at e;omega
def sgC(s:Sg):List Value:=[.int .u8 (s.ty:Int),.string (str s.load)]
theorem yW:RecShape sgC 2 where
 len:=fun _=>rfl
 one:=fun a u hu=>by simp[sgC]at hu;rcases hu with rfl|rfl<;>rfl
 pos:=by omega
theorem slG:SlT prog 40 84 2 24 (.agg #[.int .u8 0,.string ⟨#[]⟩]):=SlT.mk' underlying40 Wj rfl Wq
abbrev OwnG(w:World)(base:Nat)(A:Option Addr)(n c:Nat)(l:List Sg):Prop:=Own w base 84 2 A n c (rowC sgC l)
abbrev RdG(w:World)(B:Nat)(A:Option Addr)(n c:Nat)(l:List Sg):Prop:=Rd w B 2 A n c (rowC sgC l)
def jM(h:Hd)(size:Nat)(f:Fr)(goes:Bool):Array Value:=#[h.v,.int .i64 (size:Int),.bool f.first,.bool f.last,.bool f.beg,.bool f.fin,.int .u8 (f.ty:Int),.int .u8 (f.track:Int),.int .u16 (f.chan:Int),.string (str f.load),.bool goes]
def fr00:Fr:=⟨false,false,false,false,0,0,0,[]⟩
theorem Ku(w:World):(zeroValue 158).run prog w= .ok (.agg (jM ⟨none,0,0⟩ 0 fr00 false)) w:=zeroValue158 w
def X3(is:Bool)(x:Fr)(goes:Bool)(f:Fr):Bool:=
 if 1<f.track then false else if is then(if goes then !f.beg&&decide (f.ty=x.ty)&&(f.first==x.first)&&(f.last==x.last)else f.beg&& !f.first&&decide (x.ty<f.ty))
 else f.first&&f.beg&&decide (f.ty=f.track)&&(f.last||decide (f.track=1))
theorem zaz(h:Hd)(sz:Nat)(x:Fr)(goes is:Bool)(f:Fr)(w:World)(hf:f.wf)(hx:x.ty<256):
  Calls prog 82 #[.agg (jM h sz x goes),.bool is,.agg (frV f)] w fun e w'=>e= .returned (.bool (X3 is x goes f))∧Below w.heap.size w w':=by
 obtain⟨b1,b2,b3,b4,ty,tr,ch,ld⟩:=f;obtain⟨x1,x2,x3,x4,xty,xtr,xch,xld⟩:=x;obtain⟨mh,lm,gD⟩:=hf;simp only at mh lm gD hx;unfold X3 frV jM Hd.v;simp only;by_cases g1:1<tr
 ·rw[if_pos g1];have g2:(1:Int)<(tr:Int):=by omega
  go_enter func82,ntmps82;go_wp2_with(with_reducible refine h_A ?_);go_ret;exact⟨rfl,((KS _ _).alloc (K0 _) _).alloc Wz _⟩
 rw[if_neg g1];have g2:decide ((1:Int)<(tr:Int))=false:=by simp;omega
 cases is
 ·exact Z2x_
 rw[if_pos rfl];clear g1;have k1:((ty:Int)==(xty:Int))=decide (ty=xty):=by rw[Bool.eq_iff_iff];simp;omega
 have k2:decide ((xty:Int)<(ty:Int))=decide (xty<ty):=by rw[Bool.eq_iff_iff];simp
 cases goes
 ·have qqcv:=();exact Z2x_
 have qqcw:=();exact Z2x_
def kA(l:List Fr):Bool:=match l.getLast? with
 | none=>false
 | some x=> !x.fin
def PartOk(l:List Fr)(x:Fr):Prop:=x.ty<256∧∃y,l.getLast?=some y∧x.ty=y.ty∧x.first=y.first∧x.last=y.last
theorem PartOk.fits{l:List Fr}{x:Fr}(h:PartOk l x)(f:Fr):X3 true x (kA l) f=fitsB l f:=by
 obtain⟨_,y,hy,h1,h2,h3⟩:=h;unfold X3 fitsB kA;rw[hy,h1,h2,h3]
 cases hf:y.fin<;>simp[hf]
theorem Jx(x:Fr)(f:Fr):X3 false x (kA []) f=fitsB [] f:=by simp[X3,fitsB]
structure GaMap(w:World)(F:Nat→Prop)(mb n:Nat)(D:DataW Value)(hd:Nat→Nat→Hd)(xf:Nat→Nat→Fr)(op:Nat→Nat→List Fr):Prop where
 owns:w.ownsMap prog 156 rawV mb n D
 inF:F mb
 miss:∀a b,a<65536→b<65536→op a b=[]→Maps.has D (gkL a b)=false
 has:∀a b,a<65536→b<65536→op a b≠ []→Maps.has D (gkL a b)=true∧∀z,D.atKey (gkL a b) z= .held (.agg (jM (hd a b) (zI (op a b)) (xf a b) (kA (op a b))))
 part:∀a b,a<65536→b<65536→op a b≠ []→PartOk (op a b) (xf a b)
 row:∀a b,a<65536→b<65536→op a b≠ []→OwnG w 0 (hd a b).A (hd a b).n (hd a b).c (zY (op a b))∧∀g,blk (hd a b).A=some g→F g∧g≠mb
 apart:∀a b c d,a<65536→b<65536→c<65536→d<65536→op a b≠ []→op c d≠ []→¬(a=c∧b=d)→∀g,blk (hd a b).A=some g→blk (hd c d).A≠some g
 lt:∀g,F g→g<w.heap.size
theorem GaMap.keep{D:DataW Value}{hd:Nat→Nat→Hd}{xf:Nat→Nat→Fr}{op:Nat→Nat→List Fr}(h:GaMap w F mb n D hd xf op)(hk:∀g,F g→w'.heap[g]?=w.heap[g]?)(hs:w.heap.size≤w'.heap.size):GaMap w' F mb n D hd xf op where
 owns:=yj h.owns (hk _ h.inF)
 inF:=h.inF
 miss:=h.miss
 has:=h.has
 part:=h.part
 row a b ha hb hne:=by
  obtain⟨h1,h2⟩:=h.row a b ha hb hne;exact⟨v7 h1 (fun g hg=>hk g (h2 g hg).1),h2⟩
 apart:=h.apart
 lt g hg:=q6 (h.lt g hg) hs
theorem GaMap.mono{D:DataW Value}{hd:Nat→Nat→Hd}{xf:Nat→Nat→Fr}{op:Nat→Nat→List Fr}(h:GaMap w F mb n D hd xf op)(hn:n≤m):GaMap w F mb m D hd xf op:=⟨h.owns.mono hn,h.inF,h.miss,h.has,h.part,h.row,h.apart,h.lt⟩
structure Ga(w:World)(F:Nat→Prop)(pb n:Nat)(g:GS):Prop where
 ex:∃mb D hd xf,Box w pb 88 #[.map (some mb),.bool g.dead]∧F pb∧pb≠mb∧(g.dead=false→(∀a b,a<65536→b<65536→g.op a b≠ []→blk (hd a b).A≠some pb)∧GaMap w F mb n D hd xf g.op)
 lt:∀k,F k→k<w.heap.size
theorem Ga.keep{g:GS}(h:Ga w F pb n g)(hk:∀k,F k→w'.heap[k]?=w.heap[k]?)(hs:w.heap.size≤w'.heap.size):Ga w' F pb n g where
 ex:=by
  obtain⟨mb,D,hd,xf,h1,h2,h3,h4⟩:=h.ex;exact⟨mb,D,hd,xf,(hk _ h2).trans h1,h2,h3,fun e=>⟨(h4 e).1,(h4 e).2.keep hk hs⟩⟩
 lt k hk':=q6 (h.lt k hk') hs
theorem Ga.mono{g:GS}(h:Ga w F pb n g)(hn:n≤m):Ga w F pb m g:=by
 obtain⟨⟨mb,D,hd,xf,h1,h2,h3,h4⟩,h5⟩:=h;exact⟨⟨mb,D,hd,xf,h1,h2,h3,fun e=>⟨(h4 e).1,(h4 e).2.mono hn⟩⟩,h5⟩
theorem Ga.below{g:GS}(h:Ga w F pb n g)(hB:Below w.heap.size w w'):Ga w' F pb n g:=h.keep (fun k hk=>hB.block k (h.lt k hk)) hB.size
theorem Ga.keepF{G:Nat→Prop}{g:GS}(h:Ga w F pb n g)(hk:KeepF G w w')(hd:∀k,F k→¬G k):Ga w' F pb n g:=h.keep (zaB hk hd h.lt) hk.1
theorem GaMap.look{D:DataW Value}{hd:Nat→Nat→Hd}{xf:Nat→Nat→Fr}{op:Nat→Nat→List Fr}(h:GaMap w F mb n D hd xf op)(ha:a<65536)(hb:b<65536):
  ∃(H:Hd) (x:Fr) (is:Bool),(∀W,Below w.heap.size w W→(Instr.lookup 86 (.map (some mb)) (gkV a b) true).run prog W= .ok (.tuple #[.agg (jM H (zI (op a b)) x (kA (op a b))),.bool is]) W)∧
   (op a b=[]→H=⟨none,0,0⟩∧is=false)∧(op a b≠ []→H=hd a b∧x=xf a b∧is=true)∧H.n=(zY (op a b)).length∧OwnG w 0 H.A H.n H.c (zY (op a b))∧x.ty<256∧∀f,X3 is x (kA (op a b)) f=fitsB (op a b) f:=by
 have iL:∀W,Below w.heap.size w W→∃v ps,(Instr.lookup 86 (.map (some mb)) (gkV a b) true).run prog W= .ok (.tuple #[v,.bool (Maps.has D (gkL a b))]) W∧rawV v=some (D.atKey (gkL a b) (.held (.agg (jM ⟨none,0,0⟩ 0 fr00 false))),ps):=fun W hW=>
  (h.keep (fun g hg=>hW.block g (h.lt g hg)) hW.size).owns.look_ok gk_keyed underlying86 (Ku W) (zd:=.held (.agg (jM ⟨none,0,0⟩ 0 fr00 false))) (zp:=[]) rfl (vN ha hb)
 by_cases e:op a b=[]
 ·refine⟨⟨none,0,0⟩,fr00,false,fun W hW=>?_,fun _=>⟨rfl,rfl⟩,fun hne=>absurd e hne,by rw[e];rfl,by rw[e];exact Own.none_ _ _ _ _,by simp[fr00],fun f=>by rw[e];exact Jx _ f⟩;obtain⟨v,ps,h1,h2⟩:=iL W hW;rw[Maps.atKey_of_not_has (h.miss a b ha hb e)]at h2;simp only[rawV,Option.some.injEq,Prod.mk.injEq,DataW.held.injEq]at h2;rw[h.miss a b ha hb e,h2.1]at h1;rw[e];exact h1
 have hr:=(h.row a b ha hb e).1;have hp:=h.part a b ha hb e;refine⟨hd a b,xf a b,true,fun W hW=>?_,fun h'=>absurd h' e,fun _=>⟨rfl,rfl,rfl⟩,(YD yW hr).symm,hr,hp.1,fun f=>hp.fits f⟩;obtain⟨v,ps,h1,h2⟩:=iL W hW;rw[(h.has a b ha hb e).2]at h2;simp only[rawV,Option.some.injEq,Prod.mk.injEq,DataW.held.injEq]at h2;rw[(h.has a b ha hb e).1,h2.1]at h1;exact h1
theorem Zg{k:TypeId}{D:DataW Value}(h:w.ownsMap prog k rawV b n D):Maps.IsMap D:=by
 obtain⟨es,clock,_,_,_,hD⟩:=h;exact⟨_,hD⟩
theorem GaMap.set{w5:World}{F':Nat→Prop}{D D':DataW Value}{hd:Nat→Nat→Hd}{xf:Nat→Nat→Fr}{op op':Nat→Nat→List Fr}(h:GaMap w F mb n D hd xf op)(ha:a<65536)(hb:b<65536){l:List Fr}{H:Hd}{x:Fr}
  (cR:∀u v,op' u v=if u=a∧v=b then l else op u v) (o5:w5.ownsMap prog 156 rawV mb m D') (k5:∀g,g<w.heap.size→g≠mb→(op a b≠ []→blk (hd a b).A≠some g)→w5.heap[g]?=w.heap[g]?)
  (dO:∀u v,gkL u v≠gkL a b→Maps.has D' (gkL u v)=Maps.has D (gkL u v)∧∀z,D'.atKey (gkL u v) z=D.atKey (gkL u v) z) (d0:l=[]→Maps.has D' (gkL a b)=false)
  (d1:l≠ []→Maps.has D' (gkL a b)=true∧(∀z,D'.atKey (gkL a b) z= .held (.agg (jM H (zI l) x (kA l))))∧PartOk l x∧OwnG w5 0 H.A H.n H.c (zY l)∧∀g,blk H.A=some g→F' g∧g≠mb∧(w.heap.size≤g∨op a b≠ []∧blk (hd a b).A=some g))
  (TC:∀g,F g→(op a b≠ []→blk (hd a b).A≠some g)→F' g) (hlt:∀g,F' g→g<w5.heap.size):
  GaMap w5 F' mb m D' (fun u v=>if u=a∧v=b then H else hd u v) (fun u v=>if u=a∧v=b then x else xf u v) op':=by
 have PR:∀u v,u<65536→v<65536→¬(u=a∧v=b)→gkL u v≠gkL a b:=fun u v hu hv hne e=>hne (zb2 hu hv ha hb e)
 refine⟨o5,TC mb h.inF fun e e'=>((h.row a b ha hb e).2 mb e').2 rfl,fun u v hu hv e=>?_,fun u v hu hv e=>?_,fun u v hu hv e=>?_,fun u v hu hv e=>?_,fun u v c d hu hv hc U3 e1 e2 hne=>?_,hlt⟩
 ·rw[cR]at e;by_cases q:u=a∧v=b
  ·rw[if_pos q]at e;rw[q.1,q.2];exact d0 e
  rw[if_neg q]at e;rw[(dO u v (PR u v hu hv q)).1];exact h.miss u v hu hv e
 ·rw[cR]at e ⊢;by_cases q:u=a∧v=b
  ·simp only[if_pos q]at e ⊢;rw[q.1,q.2];exact⟨(d1 e).1,(d1 e).2.1⟩
  simp only[if_neg q]at e ⊢;rw[(dO u v (PR u v hu hv q)).1];exact⟨(h.has u v hu hv e).1,fun z=>by rw[(dO u v (PR u v hu hv q)).2];exact(h.has u v hu hv e).2 z⟩
 ·rw[cR]at e ⊢;by_cases q:u=a∧v=b
  ·simp only[if_pos q]at e ⊢;exact(d1 e).2.2.1
  simp only[if_neg q]at e ⊢;exact h.part u v hu hv e
 ·rw[cR]at e ⊢;by_cases q:u=a∧v=b
  ·simp only[if_pos q]at e ⊢;obtain⟨_,_,_,h4,h5⟩:=d1 e;exact⟨h4,fun g hg=>⟨(h5 g hg).1,(h5 g hg).2.1⟩⟩
  simp only[if_neg q]at e ⊢;obtain⟨q1,q2⟩:=h.row u v hu hv e;have q3:∀g,blk (hd u v).A=some g→(op a b≠ []→blk (hd a b).A≠some g):=fun g hg ne=>h.apart u v a b hu hv ha hb e ne q g hg
  exact⟨v7 q1 (fun g hg=>k5 g (h.lt _ (q2 g hg).1) (q2 g hg).2 (q3 g hg)),fun g hg=>⟨TC g (q2 g hg).1 (q3 g hg),(q2 g hg).2⟩⟩
 intro g hg Hm;rw[cR]at e1 e2
 have key:∀u v,u<65536→v<65536→¬(u=a∧v=b)→op u v≠ []→l≠ []→∀g,blk (hd u v).A=some g→blk H.A=some g→False:=by
  intro u v hu hv q e hl g hg Hm;obtain⟨_,_,_,_,h5⟩:=d1 hl;obtain⟨_,_,h6⟩:=h5 g Hm;rcases h6 with h6|⟨h6,h7⟩
  ·have:=h.lt _ ((h.row u v hu hv e).2 g hg).1;omega
  exact h.apart u v a b hu hv ha hb e h6 q g hg h7
 by_cases q:u=a∧v=b
 ·by_cases q':c=a∧d=b
  ·exact hne ⟨q.1.trans q'.1.symm,q.2.trans q'.2.symm⟩
  simp only[if_pos q]at e1 hg;simp only[if_neg q']at e2 Hm;exact key c d hc U3 q' e2 e1 g Hm hg
 by_cases q':c=a∧d=b
 ·simp only[if_neg q]at e1 hg;simp only[if_pos q']at e2 Hm;exact key u v hu hv q e1 e2 g hg Hm
 simp only[if_neg q]at e1 hg;simp only[if_neg q']at e2 Hm;exact h.apart u v c d hu hv hc U3 e1 e2 hne g hg Hm
def asV(c t:Nat)(A:Option Addr)(n k:Nat):Array Value:=#[.int .u16 (c:Int),.int .u8 (t:Int),.slice A n k]
def asZ:Array Value:=#[.int .u16 0,.int .u8 0,.slice none 0 0]
theorem zq(w:World)(cs:Array Value)(t:TypeId):∃(b:Nat) (v:World),b=w.heap.size∧v=w.alloc (.cells cs t)∧Box v b t cs∧Below w.heap.size w v:=
 ⟨_,_,rfl,rfl,Box.new w cs t,(KS _ _).alloc (K0 _) _⟩
theorem Y1{k e:TypeId}{t:Nat}{D:DataW Value}(h:w.ownsMap prog k rawV b n D)(ht:prog.underlying t=some (.map k e))(ty:TypeId):∃w',(Builtin.clear_ #[t] ty #[.map (some b)]).run prog w= .ok (.tuple #[]) w'∧w.grownBy w' (some b)∧w'.heap.size=w.heap.size:=by
 obtain⟨es,clock,hb,_⟩:=h;refine⟨_,by simp[Builtin.clear_,run_underlying ht,Go.MapKept.run_getObj_map hb,Go.MapKept.run_setObj_map _ hb,Result.andThen];rfl,?_,?_⟩
 ·exact⟨rfl,rfl,rfl,by simp,fun i _ hi=>by
   show(w.heap.setIfInBounds b _)[i]?=_
   rw[Array.getElem?_setIfInBounds_ne (fun e=>hi (by rw[e]))]⟩
 simp
theorem X2{ops:Array Oper}{rest:List Oper}{o:Oper}{a:Act}{Q:Exit→Act→World→Prop}{k e:TypeId}{t:Nat}{D:DataW Value}{m:Operand}(hw:Region.wanted o (yielded ops a.tmps)=true)(ho:o.op= .call {callee:=.builtin .clear,args:=#[m],argTypes:=#[t]})(hm:a.eval m= .map (some b))
  (h:w.ownsMap prog k rawV b n D) (ht:prog.underlying t=some (.map k e)) (hk:∀w',w.grownBy w' (some b)→w'.heap.size=w.heap.size→wpList prog ops Q rest (a.put o.dst (.tuple #[])) w'):wpList prog ops Q (o::rest) a w:=by
 refine BigFrame.wpList_want hw fun K hK=>?_
 obtain⟨w',bu,h1,h2⟩:=Y1 h ht o.type;unfold Oper.wp execOp;simp only[ho,resolve,invoke,builtin,Sem.run_bind,Sem.run_pure,Result.andThen_ok,List.map_toArray,List.map_cons,List.map_nil,hm,bu];exact hK _ _ (hk w' h1 h2)
def xQ(a:As):Nat:=if asOk a then 0 else 70
def vx(l:List Sg):Nat→Option Nat
 | 0=>none
 | i+1=>(l[i]?).map (·.ty)
theorem Qc{l:List Sg}{i:Nat}(h:i<l.length):xn n (vx l i) (l.drop i)=(decide (l[i].ty≤3)&&(match vx l i with|none=>true|some p=>decide (p<l[i].ty))&&decide (n+l[i].load.length≤16384)&&xn (n+l[i].load.length) (vx l (i+1)) (l.drop (i+1))):=by
 have e:vx l (i+1)=some l[i].ty:=by simp[vx,h]
 rw[List.drop_eq_getElem_cons h,e];rfl
theorem JE(a:As)(A:Option Addr)(n c:Nat)(B:Nat)(w:World)(hr:RdG w B A n c a.segs)(hB:B≤w.heap.size)(hw:a.wf)(hs:∀s∈a.segs,s.load.length≤140737488351232)(hn:n≤140737488351232):
  Calls prog 61 #[.agg (asV a.chan a.track A n c)] w fun e w'=>e= .returned (.int .i64 (xQ a:Int))∧Below w.heap.size w w':=by
 have cW:=yM yW hr;obtain⟨ch,tr,l⟩:=a;obtain⟨gD,lm,mh⟩:=hw;simp only at*;obtain⟨xb,w0,bD,bo,hX,Hy⟩:=zq w (asV ch tr A n c) 42;have HN:=Q1 cW;have BE:=fun{i:Nat} (hi:i<n)=>xF yW hr hi
 have CF:=Q1 mh;have P7:=Q1 hs;have r6:w.heap.size≤xb:=by omega
 clear cW mh hs;unfold asV at*;go_enter func61,ntmps61;go_upto_region 1 with fail;rw[←bD,←bo];clear bD bo;have x0:=hX.c0;have x1:=hX.c1;have x2:=hX.c2;have HR:Hid (xn 0 none l=xn 0 (vx l 0) (l.drop 0)):=Q1 rfl;go_wp2_with(with_reducible refine h_B ?_);go_loopw [3,9] (fun s3 s9 wr=>∃(i m:Nat),i≤n∧m≤16384∧s3= .int .i64 (m:Int)∧s9= .int .i64 (i:Int)∧Hid (xn 0 none l=xn m (vx l i) (l.drop i))∧Box wr xb 42 #[.int .u16 (ch:Int),.int .u8 (tr:Int),.slice A n c]∧Below w.heap.size w wr) (fun _ s9 _=>n-(RowKit.intOf s9).toNat)
 case atStart=>exact⟨0,0,by omega,by omega,rfl,rfl,HR,hX,Hy⟩
 clear HR x0 x1 x2 hX Hy w0;obtain⟨i,m,hi,hm,rfl,rfl,HC,hX,bP⟩:=hrel;have x0:=hX.c0;have x1:=hX.c1;have x2:=hX.c2;by_cases hlt:i<n
 ·have qqep:=();exact Z3j_
 have g1:¬(i:Int)<(n:Int):=by omega
 have BL:xn 0 none l=true:=by
  rw[HC.out,List.drop_eq_nil_of_le Nx]
  cases vx l i<;>rfl
 have HA:=Q1 BL;clear BL HC;rcases Nat.eq_zero_or_pos n with oh|nA
 ·have HV:Hid (xQ ⟨ch,tr,l⟩=70):=Q1 (by
   have:l=[]:=List.eq_nil_of_length_eq_zero Nx
   simp[xQ,asOk,jN,this])
  have d1:((n:Int)==0)=true:=by simp;omega
  clear oh BE;exact Z4q_
 obtain⟨b,off,rfl,dx,bI,bC⟩:=BE nA;have fZ:b<w.heap.size:=by omega
 have k0:wr.cell? ⟨b,off,none⟩=some (.int .u8 (l[0].ty:Int)):=(bP.cell (p:=⟨b,off,none⟩) fZ).trans (by simpa using bC 0 _ rfl);have mh:=CF.out _ (List.getElem_mem bI);have hj1:(0:Int)<(n:Int):=by omega
 have d1:((n:Int)==0)=false:=by simp;omega
 have HH:Hid (jN ⟨ch,tr,l⟩=(decide (l[0].ty=tr)&&decide (tr≤1)&&(decide (tr≠0)||decide (n≤1)))):=Q1 (by
  have:=HN.out
  cases l with
  | nil=>simp at bI
  | cons s r=>
   simp only[jN,K2];congr 2
   cases r with
   | nil=>simp at this ⊢;omega
   | cons s' r'=>simp at this ⊢;omega)
 clear bC BE;generalize l[0].ty=t0 at*;by_cases c1:t0=tr
 ·have d2:((t0:Int)!=(tr:Int))=false:=by simp;omega
  have L6:=Q1 c1;clear c1;by_cases c2:1<tr
  ·have qqd2:=();exact Z2z_
  have d3:decide ((1:Int)<(tr:Int))=false:=by simp;omega
  by_cases c3:tr=0
  ·(have d4:((tr:Int)==0)=true:=by simp;omega);have IR:=Q1 c3;clear c3;by_cases c4:1<n
   ·have d5:(1:Int)<(n:Int):=by omega
    have HV:Hid (xQ ⟨ch,tr,l⟩=70):=Q1 (by
     have:jN ⟨ch,tr,l⟩=false:=by rw[HH.out];simp[IR.out];omega
     simp[xQ,asOk,this])
    exact Z4q_
   have d5:decide ((1:Int)<(n:Int))=false:=by simp;omega
   have HV:Hid (xQ ⟨ch,tr,l⟩=0):=Q1 (by
    have:jN ⟨ch,tr,l⟩=true:=by rw[HH.out];simp[L6.out,IR.out];omega
    simp[xQ,asOk,this,HA.out])
   exact Z4q_
  have d4:((tr:Int)==0)=false:=by simp;omega
  have HV:Hid (xQ ⟨ch,tr,l⟩=0):=Q1 (by
   have:jN ⟨ch,tr,l⟩=true:=by rw[HH.out];simp[L6.out,c3];omega
   simp[xQ,asOk,this,HA.out])
  exact Z4q_
 exact Z2z_
theorem QM(pb mb n k:Nat)(d:Bool)(D:DataW Value)(w:World)(hb:Box w pb 88 #[.map (some mb),.bool d])(hm:w.ownsMap prog 156 rawV mb n D)(hne:pb≠mb):
  Calls prog 81 #[.pointer (some ⟨pb,0,none⟩),.int .i64 (k:Int)] w fun e w'=>e= .returned (.tuple #[.agg asZ,.bool false,.int .i64 (k:Int)])∧Box w' pb 88 #[.map (some mb),.bool true]∧KeepF (fun g=>g=pb∨g=mb) w w':=by
 obtain⟨rb,w0,bD,bo,hr,Hy⟩:=zq w asZ 42;have cY:=hb.below Hy;have sI:w0.ownsMap prog 156 rawV mb n D:=yj hm (Hy.block mb hm.lt);have T3:rb≠pb:=by have:=hb.lt;omega
 have nN:rb≠mb:=by have:=hm.lt;omega
 have tH:w.heap.size≤rb:=by omega
 have TN:KeepF (fun g=>g=pb∨g=mb) w w0:=.below Hy;unfold asZ at*;go_enter func81,ntmps81;go_upto_region 1 with fail;go_wp2_with(with_reducible refine h_B ?_);rw[←bD,←bo];clear bo bD;refine zc (zn (v:=.bool true) (vs:=[.bool true]) rfl rfl rfl rfl cY rfl Wj Wz WZ #[.map (some mb),.bool true] Wz ?_);intro w1 bK bN cy;have dQ:=hr.grown bN (by intro e;injection e with e;exact T3 e);have gF:w1.ownsMap prog 156 rawV mb n D:=yj sI (bN.block mb sI.lt (by intro e;injection e with e;exact hne e.symm));have tv:KeepF (fun g=>g=pb∨g=mb) w w1:=TN.trans (.grown bN (fun g hg=>.inl (.inl Hq))) (fun g hg=>.inl hg);have c0:=bK.c0;clear cY hr sI TN bN cy Hy;go_wp2_with(first|(with_reducible refine JC ?_)|(with_reducible refine xr ?_));refine zc (X2 rfl rfl rfl gF underlying86 ?_);intro w2 Hm ep;have cH:=dQ.grown Hm (by intro e;injection e with e;exact nN e);have bF:=bK.grown Hm (by intro e;injection e with e;exact hne e);have dS:KeepF (fun g=>g=pb∨g=mb) w w2:=tv.trans (.grown Hm (fun g hg=>.inl (.inr Hq))) (fun g hg=>.inl hg);clear bK dQ gF tv Hm ep c0;go_wp2_with(with_reducible refine h_B ?_);refine zc (zn (v:=.agg #[.int .u16 0,.int .u8 0,.slice none 0 0]) (vs:=[.int .u16 0,.int .u8 0,.slice none 0 0]) rfl rfl rfl rfl cH rfl Wj Wz WZ #[.int .u16 0,.int .u8 0,.slice none 0 0] Wz ?_);intro w3 cj H6 fR;have bX:=bF.grown H6 (by intro e;injection e with e;exact T3 e.symm);have BQ:KeepF (fun g=>g=pb∨g=mb) w w3:=dS.trans (.grown (F:=fun g=>g=rb) H6 (fun g hg=>.inl Hq)) (fun g hg=>.inr (by rw[hg];exact tH));clear bF cH dS H6 fR;go_wp2_with(with_reducible refine h_B ?_);exact zv rfl cj rfl rfl rfl underlying42 rfl Wj rfl ⟨rfl,bX,BQ⟩
section
def Ks(w:World)(F:Nat→Prop)(pb n:Nat)(g:GS)(f:Fr)(e:Ending)(w':World):Prop:=
 ∃F':Nat→Prop,(∀k,F' k→F k∨w.heap.size≤k)∧Ga w' F' pb (n+1) (g.next f)∧KeepF F w w'∧
  ((g.out f=none∧e= .returned (.tuple #[.agg asZ,.bool false,.int .i64 (g.err f:Int)]))∨
   (∃a A c,g.out f=some a∧e= .returned (.tuple #[.agg (asV a.chan a.track A a.segs.length c),.bool true,.int .i64 0])∧OwnG w' 0 A a.segs.length c a.segs∧∀b,blk A=some b→¬F' b∧(F b∨w.heap.size≤b)))
theorem GS.out_err{g:GS}{f:Fr}(h:g.err f≠0):g.out f=none:=by unfold GS.out;rw[if_neg (fun e=>h e.1)]
theorem GS.next_err{g:GS}{f:Fr}(h:g.err f≠0):g.next f=⟨true,fun _ _=>[]⟩:=by unfold GS.next;rw[if_pos h]
theorem vY{k:Nat}{g:GS}{f:Fr}(hlt:∀k,F k→k<w.heap.size)(hb:Box w' pb 88 #[.map (some mb),.bool true])(hF:F pb)(hne:pb≠mb)(hK:KeepF F w w')(he:g.err f=k)(hk:k≠0):
  Ks w F pb n g f (.returned (.tuple #[.agg asZ,.bool false,.int .i64 (k:Int)])) w':=by
 refine⟨F,fun _ h=>.inl h,⟨⟨mb,.map [],fun _ _=>⟨none,0,0⟩,fun _ _=>fr00,?_,hF,hne,fun h=>?_⟩,fun k hk=>q6 (hlt k hk) hK.1⟩,hK,.inl ⟨GS.out_err Wq,by rw[he]⟩⟩
 ·rw[GS.next_err Wq];exact hb
 rw[GS.next_err Wq]at h;cases h
theorem Y0{l:List Fr}{x f:Fr}(h:l≠ []→PartOk l x)(hf:fitsB l f=true)(hw:f.wf):PartOk (l++ [f]) (if f.beg then f else x):=by
 cases hb:f.beg with
 | true=>exact⟨hw.1,f,by simp,rfl,rfl,rfl⟩
 | false=>
  have hne:l≠ []:=fun e=>by rw[e]at hf;have:=(Zh hf).2.1;rw[hb]at this;cases this
  obtain⟨h1,y,hy,h2,h3,h4⟩:=h hne;unfold fitsB at hf;split at hf
  ·cases hf
  rw[hy]at hf;simp only[hb]at hf;split at hf
  ·simp at hf
  simp at hf;obtain⟨⟨e1,e2⟩,e3⟩:=hf;exact⟨h1,f,by simp,by simp[h2,e1],by simp[h3,e2],by simp[h4,e3]⟩
theorem Jw(l:List Fr)(f:Fr):kA (l++ [f])= !f.fin:=by simp[kA]
theorem vL(l:List Fr)(f:Fr):zI (l++ [f])=zI l+f.load.length:=by rw[qy];simp[zI]
theorem QL{l:List Fr}{f:Fr}(hg:Goes l)(hf:fitsB l f=true):∃L0 s0,(if f.beg then zY l++ [⟨f.ty,[]⟩]else zY l)=L0++ [s0]∧zY (l++ [f])=L0++ [⟨s0.ty,s0.load++f.load⟩]:=by
 have hne:(if f.beg then zY l++ [⟨f.ty,[]⟩]else zY l)≠ []:=by
  split
  ·simp
  rename_i hb
  refine Y3 hg fun e=>?_
  rw[e]at hf;exact hb (Zh hf).2.1
 refine⟨_,_,(kI hne).symm,?_⟩;rw[jv,xE]
 conv=>lhs;rw[←kI hne]
 rw[vr]
structure FdS(w wx:World)(hA:Option Addr)(fb rb kb qb pb mb:Nat)(d:Bool)(f:Fr)(X:Array Value)(A:Option Addr)(n c:Nat)(L:List Sg):Prop where
 bf:Box wx fb 97 (frV f)
 br:Box wx rb 42 asZ
 bk:Box wx kb 156 #[.int .i64 (f.chan:Int),.int .i64 (f.track:Int)]
 bq:Box wx qb 158 X
 bp:Box wx pb 88 #[.map (some mb),.bool d]
 row:OwnG wx 0 A n c L
 keep:KeepF (fun g=>blk hA=some g) w wx
 lo:w.heap.size≤fb∧w.heap.size≤rb∧w.heap.size≤kb∧w.heap.size≤qb∧pb<w.heap.size
 ne:fb≠rb∧fb≠kb∧fb≠qb∧rb≠kb∧rb≠qb∧kb≠qb
 hp:blk hA≠some pb
 hl:∀g,blk hA=some g→g<w.heap.size
 at_:∀g,blk A=some g→blk hA=some g∨w.heap.size≤g∧g≠fb∧g≠rb∧g≠kb∧g≠qb
section
variable {w wx wy : World} {hA : Option Addr} {fb rb kb qb pb mb : Nat} {d : Bool} {f : Fr} {X Y : Array Value} {A A2 : Option Addr} {n c n2 c2 : Nat} {L L2 : List Sg}
theorem FdS.off(h:FdS w wx hA fb rb kb qb pb mb d f X A n c L){g:Nat}(hg:blk A=some g):g≠fb∧g≠rb∧g≠kb∧g≠qb∧g≠pb:=by
 have:=h.lo;rcases h.at_ g hg with e|e
 ·have:=h.hl g e;refine⟨by omega,by omega,by omega,by omega,fun e'=>h.hp (by rw[e,e'])⟩
 exact⟨e.2.1,e.2.2.1,e.2.2.2.1,e.2.2.2.2,by omega⟩
theorem FdS.store(h:FdS w wx hA fb rb kb qb pb mb d f X A n c L)(hg:wx.grownBy wy (some qb))(hq:Box wy qb 158 Y):FdS w wy hA fb rb kb qb pb mb d f Y A n c L:=by
 obtain⟨n1,n2,n3,n4,n5,n6⟩:=h.ne;have fC:=h.lo
 exact⟨h.bf.grown hg (sne Wq),h.br.grown hg (sne Wq),h.bk.grown hg (sne Wq),hq,h.bp.grown hg (sne Wq),
  zk h.row hg (fun g Ho e=>by injection e with e;exact(h.off Ho).2.2.2.1 e.symm),h.keep.trans (.grown (F:=fun g=>g=qb) hg (fun g hg=>.inl Hq)) (fun g e=>.inr (by rw[e];omega)),h.lo,h.ne,h.hp,h.hl,h.at_⟩
theorem FdS.turn(h:FdS w wx hA fb rb kb qb pb mb d f X A n c L)(hg:wx.grownBy wy (blk A))(ho:OwnG wy 0 A2 n2 c2 L2)(hb:blk A2=blk A∨∀g,blk A2=some g→wx.heap.size≤g):FdS w wy hA fb rb kb qb pb mb d f X A2 n2 c2 L2:=by
 have fC:=h.lo;have z1:=h.bf.lt;have z2:=h.br.lt;have z3:=h.bk.lt;have z4:=h.bq.lt;have z5:=h.bp.lt
 exact⟨h.bf.grown hg (fun e=>(h.off e.symm).1 rfl),h.br.grown hg (fun e=>(h.off e.symm).2.1 rfl),h.bk.grown hg (fun e=>(h.off e.symm).2.2.1 rfl),h.bq.grown hg (fun e=>(h.off e.symm).2.2.2.1 rfl),h.bp.grown hg (fun e=>(h.off e.symm).2.2.2.2 rfl),
  ho,h.keep.trans (.grown (F:=fun g=>blk A=some g) hg (fun g hg=>.inl hg)) (fun g e=>by rcases h.at_ g e with e|e;exact .inl e;exact .inr e.1),h.lo,h.ne,h.hp,h.hl,fun g Ho=>by
   rcases hb with e|e
   ·rw[e]at Ho;exact h.at_ g Ho
   ·have:=e g Ho;exact .inr ⟨by have:=h.keep.1;omega,by omega,by omega,by omega,by omega⟩⟩
theorem FdS.drew(h:FdS w wx hA fb rb kb qb pb mb d f X A n c L):FdS w wx.drew hA fb rb kb qb pb mb d f X A n c L:=
 ⟨h.bf,h.br,h.bk,h.bq,h.bp,h.row,h.keep.trans (.below (za (KS _ _) 1)) (F':=fun _=>False) (fun _ h=>h.elim),h.lo,h.ne,h.hp,h.hl,h.at_⟩
theorem FdS.below(h:FdS w wx hA fb rb kb qb pb mb d f X A n c L)(hB:Below wx.heap.size wx wy):FdS w wy hA fb rb kb qb pb mb d f X A n c L:=
 ⟨h.bf.below hB,h.br.below hB,h.bk.below hB,h.bq.below hB,h.bp.below hB,zh h.row hB,h.keep.trans (.below hB) (F':=fun _=>False) (fun _ h=>h.elim),h.lo,h.ne,h.hp,h.hl,h.at_⟩
end
theorem Kt{P:Program}{o:Oper}{a:Act}{K:Act→World→Prop}{Q:Exit→Act→World→Prop}{t k:TypeId}{m x:Operand}{mv kv:Value}(ho:o.op=Op.call {callee:=Callee.builtin Builtin.delete,args:=#[m,x],argTypes:=#[t,k]})(hm:a.eval m=mv)(hk:a.eval x=kv){ty:TypeId}(mh:o.type=ty)(bu:(Builtin.delete_ #[t,k] ty #[mv,kv]).run P w= .ok (.tuple #[]) w')(h:K (a.put o.dst (.tuple #[])) w'):o.wp P a w K Q:=by
 unfold Oper.wp;simp[execOp,ho,resolve,invoke,builtin,hm,hk,mh,bu,Result.andThen];exact h
theorem vM{P:Program}{o:Oper}{a:Act}{K:Act→World→Prop}{Q:Exit→Act→World→Prop}{t:TypeId}{m x v:Operand}{mv kv vv:Value}(ho:o.op=Op.mapUpdate t m x v)(hm:a.eval m=mv)(hk:a.eval x=kv)(hv:a.eval v=vv)(bu:(Instr.mapUpdate t mv kv vv).run P w= .ok () w')(h:K (a.put o.dst undef) w'):o.wp P a w K Q:=by
 unfold Oper.wp;simp[execOp,ho,hm,hk,hv,bu,Result.andThen];exact h
end
section
section
variable {w wz : World} {F : Nat → Prop} {pb mb n N C : Nat} {g : GS} {f y : Fr} {D : DataW Value} {hd : Nat → Nat → Hd} {xf : Nat → Nat → Fr} {H : Hd} {A : Option Addr}
theorem kr(hm:GaMap w F mb n D hd xf g.op)(hf:f.wf)(lm:f.track≤1)(h0:g.op f.chan f.track=[]→H=⟨none,0,0⟩)(h1:g.op f.chan f.track≠ []→H=hd f.chan f.track){k:Nat}(hk:blk H.A=some k):
  g.op f.chan f.track≠ []∧blk (hd f.chan f.track).A=some k∧F k∧k≠mb∧k<w.heap.size:=by
 by_cases e:g.op f.chan f.track=[]
 ·rw[h0 e]at hk;cases hk
 rw[h1 e]at hk;obtain⟨_,h2⟩:=hm.row _ _ hf.2.2 Wq e;exact⟨e,hk,(h2 k hk).1,(h2 k hk).2,hm.lt _ (h2 k hk).1⟩
theorem Xb(hm:GaMap w F mb n D hd xf g.op)(hf:f.wf)(lm:f.track≤1)(h0:g.op f.chan f.track=[]→H=⟨none,0,0⟩)(h1:g.op f.chan f.track≠ []→H=hd f.chan f.track)(hK:KeepF (fun k=>k=mb∨blk H.A=some k) w wz):KeepF F w wz:=
 hK.weak fun k hk=>by
  rcases hk with rfl|hk
  ·exact .inl hm.inF
  exact .inl (kr hm hf lm h0 h1 hk).2.2.1
theorem KE(h0:g.op f.chan f.track=[]→H=⟨none,0,0⟩)(h1:g.op f.chan f.track≠ []→H=hd f.chan f.track)(hK:KeepF (fun k=>k=mb∨blk H.A=some k) w wz):
  ∀k,k<w.heap.size→k≠mb→(g.op f.chan f.track≠ []→blk (hd f.chan f.track).A≠some k)→wz.heap[k]?=w.heap[k]?:=fun k hk hne hr=>hK.2.1 k hk fun e=>by
 rcases e with e|e
 ·exact hne e
 ·by_cases e0:g.op f.chan f.track=[]
  ·rw[h0 e0]at e;cases e
  ·rw[h1 e0]at e;exact hr e0 e
theorem KF(hm:GaMap w F mb n D hd xf g.op)(hF:F pb)(hne:pb≠mb)(pu:∀a b,a<65536→b<65536→g.op a b≠ []→blk (hd a b).A≠some pb)(hlt:∀k,F k→k<w.heap.size)(hf:f.wf)(lm:f.track≤1)(mf:g.dead=false)(he:g.err f=0)(dl:(f.fin&&f.last)=false)
  (h0:g.op f.chan f.track=[]→H=⟨none,0,0⟩) (h1:g.op f.chan f.track≠ []→H=hd f.chan f.track) (hK:KeepF (fun k=>k=mb∨blk H.A=some k) w wz) (eA:Box wz pb 88 #[.map (some mb),.bool false])
  (o5:wz.ownsMap prog 156 rawV mb (n+1) (D.put (gkL f.chan f.track) (.held (.agg (jM ⟨A,N,C⟩ (zI (g.op f.chan f.track++ [f])) y (kA (g.op f.chan f.track++ [f]))))))) (hP:PartOk (g.op f.chan f.track++ [f]) y)
  (Ct:OwnG wz 0 A N C (zY (g.op f.chan f.track++ [f]))) (GK:∀k,blk A=some k→(blk H.A=some k∨w.heap.size≤k)):
  Ks w F pb n g f (.returned (.tuple #[.agg asZ,.bool false,.int .i64 0])) wz:=by
 have dR:g.next f=g.upd f.chan f.track (g.op f.chan f.track++ [f]):=by unfold GS.next;rw[if_neg Wq,dl];simp
 have cO:g.out f=none:=by
  unfold GS.out;rw[if_neg];rintro⟨_,e1,e2⟩;rw[e1,e2]at dl;cases dl
 have lf:∀k,blk A=some k→k<wz.heap.size∧k≠mb∧(F k∨w.heap.size≤k)∧(w.heap.size≤k∨g.op f.chan f.track≠ []∧blk (hd f.chan f.track).A=some k):=fun k hk=>by
  have hl:=(Own.blk_lt Ct hk).2;rcases GK k hk with e|e
  ·obtain⟨q1,q2,q3,q4,_⟩:=kr hm hf lm h0 h1 e;exact⟨hl,q4,.inl q3,.inr ⟨q1,q2⟩⟩
  exact⟨hl,by have:=hm.lt _ hm.inF;omega,.inr e,.inl e⟩
 have dp:=hm.set (w5:=wz) (F':=fun k=>F k∨(w.heap.size≤k∧k<wz.heap.size)) (a:=f.chan) (b:=f.track) hf.2.2 (show f.track<65536 by omega) (l:=g.op f.chan f.track++ [f]) (H:=⟨A,N,C⟩) (x:=y) (op':=(g.next f).op) (fun u v=>by rw[dR];rfl) o5 (KE h0 h1 hK)
  (fun u v lE=>⟨Maps.has_put_other lE _,fun z=>Maps.atKey_put_other lE _ z⟩) (fun e=>by simp at e)
  (fun _=>⟨Maps.has_put_same (Zg hm.owns) (gk_keyed.key (vN hf.2.2 Wq)) _,fun z=>Maps.atKey_put_same (Zg hm.owns) (gk_keyed.key (vN hf.2.2 Wq)) ..,hP,Ct,fun k hk=>by
   obtain⟨q1,q2,q3,q4⟩:=lf k hk
   exact⟨by rcases q3 with q3|q3;exact .inl q3;exact .inr ⟨q3,q1⟩,q2,q4⟩⟩)
  (fun k hk _=>.inl hk) (fun k hk=>by rcases hk with hk|hk;have:=hlt k hk;have:=hK.1;omega;exact hk.2)
 refine⟨_,fun k hk=>hk.imp id (fun e=>e.1),⟨⟨mb,_,_,_,?_,.inl hF,hne,fun _=>⟨fun a b ha hb lE=>?_,dp⟩⟩,dp.lt⟩,Xb hm hf lm h0 h1 hK,.inl ⟨cO,by rw[he];rfl⟩⟩
 ·rw[dR];show Box wz pb _ #[_,.bool g.dead];rw[mf];exact eA
 rw[dR]at lE;have eE:(if a=f.chan∧b=f.track then g.op f.chan f.track++ [f]else g.op a b)≠ []:=lE;by_cases q:a=f.chan∧b=f.track
 ·simp only[if_pos q];intro e;exact Z4u_
 rw[if_neg q]at eE;simp only[if_neg q];exact pu a b ha hb eE
theorem zaK(hm:GaMap w F mb n D hd xf g.op)(hF:F pb)(hne:pb≠mb)(pu:∀a b,a<65536→b<65536→g.op a b≠ []→blk (hd a b).A≠some pb)(hlt:∀k,F k→k<w.heap.size)(hf:f.wf)(lm:f.track≤1)(mf:g.dead=false)(he:g.err f=0)(dl:(f.fin&&f.last)=true)
  (h0:g.op f.chan f.track=[]→H=⟨none,0,0⟩) (h1:g.op f.chan f.track≠ []→H=hd f.chan f.track) (hK:KeepF (fun k=>k=mb∨blk H.A=some k) w wz) (eA:Box wz pb 88 #[.map (some mb),.bool false])
  (o5:wz.ownsMap prog 156 rawV mb n (D.del (gkL f.chan f.track))) (hN:N=(zY (g.op f.chan f.track++ [f])).length)
  (Ct:OwnG wz 0 A N C (zY (g.op f.chan f.track++ [f]))) (GK:∀k,blk A=some k→(blk H.A=some k∨w.heap.size≤k)) (hAs:g.op f.chan f.track≠ []→∀k,blk (hd f.chan f.track).A=some k→blk A=some k∨True):
  Ks w F pb n g f (.returned (.tuple #[.agg (asV f.chan f.track A N C),.bool true,.int .i64 0])) wz:=by
 have dR:g.next f=g.upd f.chan f.track []:=by unfold GS.next;rw[if_neg Wq,dl];simp
 have MC:f.fin=true∧f.last=true:=by simpa using dl
 have cO:g.out f=some ⟨f.chan,f.track,zY (g.op f.chan f.track++ [f])⟩:=by
  unfold GS.out;rw[if_pos ⟨he,MC.1,MC.2⟩]
 have ai:blk A≠some pb:=fun e=>by
  exact Z4u_
 have ED:∀k,blk A=some k→k<w.heap.size→g.op f.chan f.track≠ []∧blk (hd f.chan f.track).A=some k:=fun k hk hl=>by
  rcases GK k hk with e|e
  ·obtain⟨q1,q2,_⟩:=kr hm hf lm h0 h1 e;exact⟨q1,q2⟩
  omega
 have dp:=hm.set (w5:=wz) (F':=fun k=>F k∧blk A≠some k) (a:=f.chan) (b:=f.track) hf.2.2 (show f.track<65536 by omega) (l:=[]) (H:=⟨none,0,0⟩) (x:=f) (op':=(g.next f).op) (fun u v=>by rw[dR];rfl) o5 (KE h0 h1 hK)
  (fun u v lE=>⟨Maps.has_del_other lE,fun z=>Maps.atKey_del_other lE z⟩) (fun _=>Maps.has_del_same) (fun e=>absurd rfl e)
  (fun k hk hr=>⟨hk,fun e=>by obtain⟨q1,q2⟩:=ED k e (hlt k hk);exact hr q1 q2⟩) (fun k hk=>by have:=hlt k hk.1;have:=hK.1;omega)
 refine⟨_,fun k hk=>.inl hk.1,⟨⟨mb,_,_,_,?_,⟨hF,ai⟩,hne,fun _=>⟨fun a b ha hb lE=>?_,dp.mono (Nat.le_succ _)⟩⟩,dp.lt⟩,Xb hm hf lm h0 h1 hK,.inr ⟨_,A,C,cO,?_,?_,fun b hb=>⟨fun e=>e.2 hb,?_⟩⟩⟩
 ·rw[dR];show Box wz pb _ #[_,.bool g.dead];rw[mf];exact eA
 ·rw[dR]at lE;have eE:(if a=f.chan∧b=f.track then []else g.op a b)≠ []:=lE;by_cases q:a=f.chan∧b=f.track
  ·rw[if_pos q]at eE;exact absurd rfl eE
  rw[if_neg q]at eE;simp only[if_neg q];exact pu a b ha hb eE
 ·rw[hN]
 ·show OwnG wz 0 A (zY _).length C _
  rw[←hN];exact Ct
 rcases GK b hb with e|e
 ·exact .inl (kr hm hf lm h0 h1 e).2.2.1
 exact .inr e
end
end
theorem za9(w:World):Calls prog 23 #[] w fun e w'=>e= .returned (.pointer (some ⟨w.heap.size+1,0,none⟩))∧Ga w' (fun g=>g=w.heap.size∨g=w.heap.size+1) (w.heap.size+1) 0 GS.new∧Below w.heap.size w w'∧w'.heap.size=w.heap.size+2:=by
 have nE:=fun W=>run_makeMap (P:=prog) 86 W
 go_enter func23,ntmps23;go_wp2_with(with_reducible refine h_A ?_);go_ret;have sI:=q8 w prog 156 rawV;have BZ:(w.alloc (.map #[] 0)).heap.size=w.heap.size+1:=by simp
 have Ha:Below w.heap.size w (w.alloc (.map #[] 0)):=(KS _ _).alloc (K0 _) _
 have dh:Box ((w.alloc (.map #[] 0)).alloc (.cells #[.map (some w.heap.size),.bool false] 88)) (w.heap.size+1) 88 #[.map (some w.heap.size),.bool false]:=by
  have:=Box.new (w.alloc (.map #[] 0)) #[.map (some w.heap.size),.bool false] 88;rwa[BZ]at this
 have hlt:∀g,(g=w.heap.size∨g=w.heap.size+1)→g<((w.alloc (.map #[] 0)).alloc (.cells #[.map (some w.heap.size),.bool false] 88)).heap.size:=fun g hg=>by simp only[World.alloc,Array.size_push];omega
 refine⟨rfl,⟨⟨w.heap.size,.map [],fun _ _=>⟨none,0,0⟩,fun _ _=>fr00,dh,.inr rfl,by omega,fun _=>⟨fun a b _ _ hne=>absurd rfl hne,?_⟩⟩,hlt⟩,Ha.alloc Ha.size _,by simp⟩;exact⟨yj sI (Below.heap_alloc _ _ _ Wq),.inl rfl,fun a b _ _ _=>rfl,fun a b _ _ hne=>absurd rfl hne,fun a b _ _ hne=>absurd rfl hne,fun a b _ _ hne=>absurd rfl hne,fun a b c d _ _ _ _ hne=>absurd rfl hne,hlt⟩
end Go.PH
