/- Proofs that stand several times. -/
import Derived.Shelf.Utf8.RuneCount
import Derived.Shelf.Strings.Search1
import Derived.Shelf.Strings.Search2
import Derived.Shelf.Strings.Search3
import Derived.Shelf.Strings.Count
import Derived.Shelf.LaysM
import Derived.Shelf.Strings.Shaped
import Derived.Shelf.Strings.Split
import Derived.Shelf.Strings.SplitShaped
import Derived.Shelf.Unicode.Decode
import Derived.Shelf.Strings.RuneCount
import Derived.Shelf.Strings.Explode
import Derived.Shelf.Unicode.DecodeSlow
import Derived.Shelf.Unicode.DecodeAny
import Derived.Shelf.Slices.Equal
import Derived.Shelf.Slices.Empties2
import Derived.Shelf.Bytes.SlSearch0
import Derived.Ground.SlbCloneProg
import Derived.Shelf.Bytes.SlClone
import Derived.Shelf.Bytes.SlEqualAll
import Derived.Shelf.Bytes.Small
import Derived.WalkKit
import Derived.Lib.Hide
import Derived.Deep.Draws
import Derived.Laws.CopyOwn
import Derived.Deep.AppendLies
import Derived.Maps.AppendAt
import Derived.Deep.DeepAppendRoom
import Derived.Lib.AppendStr
import Derived.Maps.RangeWalk
import Derived.Maps.Views
import Derived.WideKeyEntry
import Derived.Maps.OwnSet
import Derived.Deep.DeepAppendWide
import Derived.Laws.CopyRow
import Derived.Laws.Tables
import Derived.Laws.ResultCell
import Derived.Deep.AppendSrc
import Derived.Deep.Upon
import Derived.Maps.OwnOps
import Derived.OrdersHeld
import Derived.Deep.RegionHeld3
import Derived.ProofKit
import Derived.OpenShut
import Derived.Deep.DeepHandedRow
import Derived.Lib.LaidTab
import Derived.SizedLaws
import Derived.Deep.Slices
import Derived.Deep.QuietTactic
import Derived.BigQuiet
import Derived.Laws.BitsAllLaws
import Derived.Laws.Bits64
import Derived.Lib.Builder
import Derived.Lib.UnsafeStr
import Derived.Laws.Externs
import Derived.RegionTactic
import Derived.BigRegion
import Derived.Deep.RegionWith
import Derived.DeepKeys4
import Derived.Deep.Cut
import Derived.WalkSpells
import Derived.Lib.LazyBuf
import Derived.Laws.StructEq
import Derived.Lib.ConvBytes
import Derived.Deep.CutRange
import Derived.WalkMore
import Derived.Lib.SplitLaws
import Derived.Deep.DeepCutAuto
import Derived.WalkLawsBesides
import Derived.Lib.DecodeN
import Derived.Lib.TrimU
import Derived.Lib.OthersKept
import Derived.Lib.LaidU8
import Derived.StringKeys
import Derived.Defers
import Derived.Recover
import Derived.Deep.CutBlock
import Derived.Lib.Bytealg
import Derived.Test.YtfbkameikhgciaaGreatDoorMz01
set_option linter.all false
set_option maxRecDepth 100000
set_option maxHeartbeats 8000000
namespace Go.PH
open Go.RowKit Go.Proofs
variable {p : Prop}
theorem Z18_(h:p:=by
 rw[hk]at hx f1 f2 f3 f4 f5 f6 dG ⊢;have a3:=List.length_eq_zero_iff.1 (f3 WJ WJ);have a4:=f6 WJ WJ WJ WJ
 first
 | have qq7e:=qq7e
   rw[show yu 168 x.n x.s (innB x)=be 4 (innB x).length++innB x by simp[yu]]at dG ⊢
   have oU:innB x=be 4 x.list.length++yy true x.keys x.list:=by rw[innB,hk];rfl
 | rw[show yu 169 x.n x.s (innB x)=be 4 (innB x).length++innB x by simp[yu]]at dG ⊢
   have oU:innB x=be 4 x.list.length++yy false x.keys x.list:=by rw[innB,hk];rfl
 have BB:(innB x).length<256 ^ 4:=by rw[List.length_cons,List.length_append,zr]at dG;omega
 rw[Cb]at hc gu ⊢;have m9:((n:Int)-1)=((n-1:Nat):Int):=by omega
 rw[m9]at hc gu ⊢;have fB:=(vg _ _ hc).1;have e1:=qX 4 (.inr (.inr (.inl rfl))) (innB x).length BB (innB x++rest);first|(have qq7e:=qq7e;have e2:=qX 4 (.inr (.inr (.inl rfl))) x.list.length Wq (yy true x.keys x.list++rest))|(have e2:=qX 4 (.inr (.inr (.inl rfl))) x.list.length Wq (yy false x.keys x.list++rest))
 rw[show((4:Nat):Int)=4 from rfl]at e1 e2
 first
 | have qq7e:=qq7e
   have eL:true=true→x.keys.length=x.list.length∧∀k∈x.keys,k.length≤255:=fun hb=>by
    exact Z40_
   have Rc:true=false→x.keys=[]:=fun hb=>by
    first
    | cases hb;done
    | exact List.length_eq_zero_iff.1 (f1 WJ)
   have e3:=Jg true x.list x.keys (n-1) rest GB eL Rc Wq hc
 | have eL:false=true→x.keys.length=x.list.length∧∀k∈x.keys,k.length≤255:=fun hb=>by
    exact Z40_
   have Rc:false=false→x.keys=[]:=fun hb=>by
    first
    | cases hb;done
    | exact List.length_eq_zero_iff.1 (f1 WJ)
   have e3:=Jg false x.list x.keys (n-1) rest GB eL Rc Wq hc
 rw[if_neg WJ,if_neg WJ,if_neg WJ,if_neg WJ,if_neg WJ,if_pos WJ,List.append_assoc,e1];simp only;first|(have qq7e:=qq7e;rw[show innB x++rest=be 4 x.list.length++(yy true x.keys x.list++rest) by rw[oU,List.append_assoc],e2])|(rw[show innB x++rest=be 4 x.list.length++(yy false x.keys x.list++rest) by rw[oU,List.append_assoc],e2])
 simp only
 rw[if_neg (by
  rintro(h|h|h)
  ·cases h
  ·rw[oU]at h;simp at h;omega
  ·omega)]
 first|(have qq7e:=qq7e;first|rw[decide_true,e3]|rw[decide_false,e3]|rw[show(decide (168=168))=true from rfl,e3])|(first|rw[decide_true,e3]|rw[decide_false,e3]|rw[show(decide (169=168))=false from rfl,e3])
 simp only;rw[if_pos (by rw[oU];simp[List.length_append];omega)];rw[a3,a4]at hx
 rw[←hx]):p:=h
theorem Z19_(h:p:=by
 obtain⟨xb,w1,Hg,Hi,hX,Ha⟩:=zg w #[.int .u8 (v.kind:Int),.int .u64 (v.n:Int),.string (str v.s),.slice h.A1 v.keys.length h.c1,.slice h.A2 v.list.length h.c2] 78;have dE:=hv.up Ha;first|(have qq7f:=qq7f;have b7:=ZT v h w1 dE)|(have b7:=Yd v h w1 dE (hT.on Ha))
 have BZ:=Ha.size;have c0:=hX.c0;have c1:=hX.c1;have c2:=hX.c2;have c3:=hX.c3;have c4:=hX.c4;by_cases he:errV v=0
 ·obtain⟨hc,hm⟩:=j3 he;have bQ:=ZF 200 hm hc;have bC:=jF v 200;first|(have qq7f:=qq7f;have hp:=fun W (hW:Below w1.heap.size w1 W)=>XL v h W (dE.up hW) hm Wq)|(have hp:=fun W (hW:Below w1.heap.size w1 W)=>zaZ v h W.heap.size none 0 0 [] W (dE.up hW) (Own.none_ _ _ _ _) (Nat.le_refl _) hm Wq)
  rw[show vlP v=vlB v by unfold vlP;rw[if_pos he]];rw[he]at b7 ⊢
  first
  | have qq7f:=qq7f
    unfold J2 at hp
  | unfold VPut at hp
    rw[List.nil_append]at hp
  generalize vlB v=L at*;have HP:=Lib.hid hp;first|(have qq7f:=qq7f;clear he hc hm bQ bC hp hv dE)|(clear he hc hm bQ bC hp hv hT dE)
  unfold vlV at*;first|(have qq7f:=qq7f;go_enter func98,ntmps98)|(go_enter func105,ntmps105)
  go_upto_region 1 with fail;rw[←Hg,←Hi];clear Hg Hi;go_wp2_with(with_reducible refine h_A ?_);refine b7.mono ?_;rintro e w2 ⟨rfl,Hc⟩;have Hk:=hX.below Hc;have hp:=HP.out w2 Hc;clear HP c0 c1 c2 c3 c4 b7;have c0:=Hk.c0;have c1:=Hk.c1;have c2:=Hk.c2;have c3:=Hk.c3;have c4:=Hk.c4;go_wp2_with(with_reducible refine h_A ?_);refine hp.mono ?_;first|(have qq7f:=qq7f;(rintro e w3 ⟨A2,P5,rfl,ho,Hh⟩))|((rintro e w3 ⟨A2,P5,rfl,ho,_,Hh⟩))
  go_wp2_with(with_reducible refine h_A ?_);go_ret2;exact⟨A2,P5,rfl,ho.base_le (Nat.le_trans BZ Hc.size),Ha.trans ((Hc.trans (Hh.mono Hc.size)).mono BZ)⟩
 rw[show vlP v=[] by unfold vlP;rw[if_neg he]];generalize errV v=r at*;have g1:(r !=0)=true:=by simp;omega
 have g2:(r==0)=false:=by simp;omega
 first|(have qq7f:=qq7f;clear he hv dE)|(clear he hv hT dE)
 unfold vlV at*;first|(have qq7f:=qq7f;go_enter func98,ntmps98)|(go_enter func105,ntmps105)
 go_upto_region 1 with fail;rw[←Hg,←Hi];clear Hg Hi;go_wp2_with(with_reducible refine h_A ?_);refine b7.mono ?_;rintro e w2 ⟨rfl,Hc⟩;clear b7;go_wp2_with(with_reducible refine h_A ?_);go_ret2
 exact⟨none,0,rfl,Own.none_ _ _ _ _,Ha.trans (Hc.mono BZ)⟩):p:=h
theorem Z1a_(h:p:=by
 subst hk
 first
 | have qq7l:=qq7l
   generalize dr:(((2:Nat):Int))=k at*
   obtain rfl:k=2:=by rw[←dr];rfl
 | generalize dr:(((8:Nat):Int))=k at*
   obtain rfl:k=8:=by rw[←dr];rfl
 clear dr;have c0:=hX.c0;have c1:=hX.c1;have c2:=hX.c2;have c3:=hX.c3;have c4:=hX.c4;go_enter func118,ntmps118;go_upto_region 1 with fail;rw[←Hg,←Hi];clear Hg Hi;go_upto_region 2 with fail;have Hk:=hX.below Hc;first|(have qq7l:=qq7l;generalize(w1.alloc (.cells #[.int .u8 2] 5))=w2 at*)|(generalize(w1.alloc (.cells #[.int .u8 8] 5))=w2 at*)
 have hB:=Ha.trans (Hc.mono BZ);have ff:=dE.up Hc;have cm:=Hc.size;generalize dc:w1.heap.size=lb at*;have wL:Hid (xb≠lb):=Lib.hid mQ;have DI:=Lib.hid dc;clear c0 c1 c2 c3 c4 hX dE dc Ha;have c0:=Hk.c0;have c1:=Hk.c1;have c2:=Hk.c2;have c3:=Hk.c3;have c4:=Hk.c4;go_wp2_with(with_reducible refine h_A ?_);first|(have qq7l:=qq7l;have iw: [UInt8.ofNat 2]++ [UInt8.ofNat v.n]=R:=by rw[HR.out];simp[yu,be])|(have iw: [UInt8.ofNat 8]++ [UInt8.ofNat v.n]=R:=by rw[HR.out];simp[yu,be])
 have lu:R.length=1+1:=by rw[←iw];rfl
 have oG:Value.int .u8 ((v.n:Int) % 256)=u8v (UInt8.ofNat v.n):=by rw[kT,UInt8.toNat_ofNat'];first|(congr;done)|(congr;omega)
 have nm:=QP (size:=1) w2 #[.int .u8 ((v.n:Int) % 256)] 5 (0,0) 1 1 rfl Wq WX;have Hh:=(Below.refl w2.heap.size w2).alloc (Nat.le_refl _) (.cells #[.int .u8 ((v.n:Int) % 256)] 5);have iX:=zh bZ Hh;have d9:=Hh.size;first|(have qq7l:=qq7l;have e8: [UInt8.ofNat 2].map u8v++ #[Value.int .u8 ((v.n:Int) % 256)].toList=R.map u8v:=by rw[←iw];simp[oG])|(have e8: [UInt8.ofNat 8].map u8v++ #[Value.int .u8 ((v.n:Int) % 256)].toList=R.map u8v:=by rw[←iw];simp[oG])
 have iY:=Lib.hid lu;clear c0 c1 c2 c3 c4 oG lu;refine zc (yc slB rfl rfl rfl rfl iX nm nQ Wq Hj Wq ?_);intro A4 q4 w4 Bq Ba _;have bL:=(hB.trans (Hh.mono hB.size)).grown Ba (Nat.le_trans hB.size d9) mJ;rw[e8]at Bq;clear iw e8;go_wp2_with(with_reducible refine h_A ?_);go_ret
 exact⟨A4,q4,by rw[iY.out];rfl,by rw[iY.out];exact Bq.base_le BZ,bL⟩):p:=h
theorem Z3v_(h:p:=by
 intro j u hu
 first
 | have qqhl:=qqhl
   have hj:j<l.length:=by have:=(List.getElem?_eq_some_iff.1 hu).1;simpa using this
   obtain⟨b,off,e,_,hc⟩:=hr.at_ Wq
 | have hm:0<m:=by
    rcases Nat.eq_zero_or_pos m with h0|h0
    ·subst h0;have hn:news=[]:=List.eq_nil_of_length_eq_zero (by simpa using hr.len);subst hn;simp at hu
    exact h0
   obtain⟨b,off,e,_,hc⟩:=hr.at_ hm
 injection e with e
 subst e;have nM:(⟨b,off,none⟩:Addr).add j=⟨b,off+j,none⟩:=by unfold Addr.add;split<;>simp_all
 rw[nM];exact hc j u hu):p:=h
theorem Z1b_(h:p:=by
 obtain⟨i,hi,hz,hs,dT⟩:=hT.i;rcases A' with _|ad
 ·have hm:m=0:=by
   rcases Nat.eq_zero_or_pos m with h0|h0
   ·exact h0
   obtain⟨b,off,e,_⟩:=hr.at_ h0;cases e
  subst hm;have hn:news=[]:=List.eq_nil_of_length_eq_zero (by simpa using hr.len);subst hn;first|(have qq7r:=qq7r;refine⟨A,c,w,?_,by simpa using Hl,World.grownBy.refl w _,.inl rfl⟩)|(refine⟨w,?_,by simpa using Hl,World.grownBy.refl w _⟩)
  rcases Hl.2 with⟨hv,rfl⟩|⟨g,cap,cur,hv,_,_,iy,_⟩
  ·(injection hv with h1 h2 h3);subst h1 h3;simp[Builtin.append_,run_underlying hT.u,sizeOf,typeInfo,hi,Builtin.lenOf,Builtin.firstCells]
  injection hv with h1 h2 h3
  subst h1 h3;simp[Builtin.append_,run_underlying hT.u,sizeOf,typeInfo,hi,Builtin.lenOf,Builtin.firstCells,iy,storeCells]
 have ix:∀j u,news[j]?=some u→w.cell? (ad.add j)=some u:=by
  exact Z3v_
 first
 | have qq7r:=qq7r
   obtain⟨v',w',bu,h2,h3,_,h5⟩:=run_append_own_at (P:=P) w base t ty e i z size bytes hT.u hi hz hs dT hT.zs hT.pos _ n xs Hl ad m c' news hr.len ix h1 Dq Bw Hf;obtain⟨A2,c2,rfl⟩:=jQ h2;rw[xh]at h3 h5;rw[xh]at h5
   exact⟨A2,c2,w',bu,h2,h3,h5⟩
 | have oI:=Hl
   rcases Hl.2 with⟨hv,rfl⟩|⟨g,cap,cur,hv,_⟩
   ·(injection hv with h1 h2 h3);subst h1 h3;(obtain rfl:m=0:=by omega);obtain⟨v',w',bu,h2,h3,h4,h5⟩:=run_append_own_at (P:=P) w base t ty e i z size bytes hT.u hi hz hs dT hT.zs hT.pos _ 0 xs Hl ad 0 c' news hr.len ix h1 Wq (by rw[Nat.add_zero,Nat.zero_mul];omega) Hf;obtain rfl:=h4.2 ⟨rfl,rfl⟩;exact⟨w',bu,h2,h3⟩
   ·(injection hv with h2 h3 h4);subst h2 h4
    exact run_append_own_spare (P:=P) w base t ty e i size hT.u hi hs g n c xs Hl ad m c' news hr.len ix h1 fG):p:=h
theorem Z1c_(h:p:=by
 first
 | have qq7u:=qq7u
   refine Vl.ind (P:=fun v=>∀(h:VH) (w:World),RVw w v h→UTabs w→Calls prog 149 #[.agg (vlV v h)] w (MayR w v)) ?_ v
   intro v ih h w hv hT
 | refine Vl.ind (P:=fun v=>∀(h:VH) (w:World),RVw w v h→Calls prog 145 #[.agg (vlV v h)] w (MayR w v)) ?_ v
   intro v ih h w hv
 unfold vlV MayR;obtain⟨xb,w1,Hg,Hi,hX,Ha⟩:=zg w #[.int .u8 (v.kind:Int),.int .u64 (v.n:Int),.string (str v.s),.slice h.A1 v.keys.length h.c1,.slice h.A2 v.list.length h.c2] 78;have dE:=hv.up Ha;first|(have qq7u:=qq7u;have uK:=hT.on Ha)|(skip)
 obtain⟨_,RI,mF,mu,IA,v9⟩:=hv.bounds
 have lA:RdX w1 (fun g=>g<w1.heap.size) 1 h.A1 v.keys.length h.c1 (v.keys.map txV):=by
  obtain⟨xs,_,_,_,lA⟩:=dE.parts;exact lA
 first
 | have qq7u:=qq7u
   have eL:=K6 h.A1 v.keys.length h.c1 v.keys w1 lA.1 IA mu uK;have eg:=Xs v.s w1 mF uK;have lW:=fun W (hW:Below w1.heap.size w1 W)=>zck (fun x=> !mayV zJ x) 0 v h W (dE.up hW) (fun x hx nH W' Gq ek=>za0 x nH W' ek (fun W2 GJ=>ih x hx nH W2 (ek.up GJ) (((uK.on hW).on Gq).on GJ)))
   rw[Qm]at lW
 | have eL:=VS h.A1 v.keys.length h.c1 v.keys w1 lA.1 IA mu
   have eg:=VT v.s w1 mF;(have BE:=fun i (hi:i<v.list.length)=>dE.elem hi);have sV:=Lib.hid BE;have IH:=Lib.hid ih
 obtain⟨r,hr⟩:∃r,r=mayV zJ v:=⟨_,rfl⟩
 rw[←hr];rw[kK]at hr;have BL:v.list.length=0→v.list.all (mayV zJ)=true:=fun e=>by rw[List.length_eq_zero_iff.1 e];rfl
 have fP:=ZH v.s;first|done|(have qq7u:=qq7u)|(have cS:((str v.s).toList != [])= !decide (v.s.length=0):=by rw[zl];cases v.s<;>simp)
 have has:=zi v.s;first|(have qq7u:=qq7u;clear ih hv hT dE uK lA mu)|(clear ih hv dE lA mu BE)
 generalize xC v.keys zJ=ko at*;generalize zJ v.s=pl at*;first|(have qq7u:=qq7u;generalize v.list.all (mayV zJ)=al at*)|(generalize Cy:v.list.all (mayV zJ)=al at*)
 generalize v.keys.length=KL at*
 first
 | have qq7u:=qq7u
   generalize v.list.length=LL at*
 | obtain⟨LL,pU⟩:∃LL,LL=v.list.length:=⟨_,rfl⟩
   rw[←pU]at v9 BL Hi hX hr ⊢
 generalize v.s=s at*;obtain⟨h1,j1,h2,j2⟩:=h;simp only at*;generalize v.kind=kd at*;generalize v.n=nd at*;generalize hk:((kd:Nat):Int)=k at*;generalize de:((nd:Nat):Int)=nn at*;generalize FI:s.length=sl at*;have HR:=Lib.hid hr;have wU:=Lib.hid BL
 first
 | have qq7u:=qq7u
   clear hr BL FI
 | have Cd:=Lib.hid Cy
   have Ci:=Lib.hid pU;clear hr BL FI Cy pU
 have c0:=hX.c0;have c1:=hX.c1;have c2:=hX.c2;have c3:=hX.c3
 have c4:=hX.c4):p:=h
theorem Z1d_(h:p:=by
 first
 | have qq7v:=qq7v
   (obtain rfl:i=s.length:=by omega);have HE:Hid (p1=LS.ones ctlG P0 s):=Lib.hid (by rw[tT.out,List.take_length])
   clear dG
 | have d5:((p1.1.st:Int)!=5)=false:=by rw[h5];rfl
   have HE:Hid (p1=LS.ones ctlG P0 s):=Lib.hid (by
    have:=QJ ctlG (s.take i) P0 (s.drop i);rw[List.take_append_drop,←tT.out,qw ctlG h5]at this
    exact this.symm)
   clear h5 dG
 go_upto_region 7 with fail;have B0:Below wr.heap.size wr wr.drew:=za (Below.refl _ wr) 1;have Hk:=hX.below B0;have dS:=hK.trans (.below (F:=U) B0) (fun g hg=>.inl hg);clear hX hK c0 B0;refine zt (fun W:World=>W.cell? ⟨lb,5,none⟩=some (.string (str p1.1.sent))∧W.cell? ⟨lb,6,none⟩=some (.slice TT p1.1.told.length tc)) Wj ?_;have hS:wr.drew.cell? ⟨lb,5,none⟩=some (.string (str p1.1.sent))∧wr.drew.cell? ⟨lb,6,none⟩=some (.slice TT p1.1.told.length tc):=⟨Hk.box.cell (j:=5) rfl,Hk.box.cell (j:=6) rfl⟩;generalize wr.drew=wd at*;refine rg_t 0 hS ?_;simp only[List.getElem_toArray,List.getElem_cons_zero,Act.put,List.setIfInBounds_toArray,List.set_cons_zero,List.set_cons_succ];refine rg_t 1 hS ?_;simp only[g_S];refine rg_t 2 hS ?_;simp only[g_S];refine ze 3 (v:=?_) rfl Wj Wj Wj hS rfl ?_ ?_;rotate_left
 ·intro wS He;have k0:=He.1;go_simp;(with_reducible rfl)
 simp only[g_S];refine rg_t 4 hS ?_;simp only[g_S];refine rg_t 5 hS ?_;simp only[g_S];refine rg_t 6 hS ?_;simp only[g_S];refine ze 7 (v:=?_) rfl Wj Wj Wj hS rfl ?_ ?_;rotate_left
 ·intro wS He;have k0:=He.2;go_simp;(with_reducible rfl)
 simp only[g_S];refine rg_t 8 hS ?_;simp only[g_S];refine rg_t 9 hS ?_;simp only[g_S];refine zz Wj ?_;go_wp2_with(with_reducible refine h_A ?_);go_ret2;rw[←Ph.out,←HE.out]
 exact Zf Hk Mu dS GG GP uK Wq):p:=h
theorem Z1e_(h:p:=by
 obtain⟨f,g,h⟩:=x;obtain⟨h1,h2,h3⟩:=hw;simp only at h1 h2 h3;have hB:Below w.heap.size w (w.alloc (.cells #[.int .u32 (f:Int),.string (str g),.string (str h)] 73)):=(Below.refl _ _).alloc (Nat.le_refl _) _;have gw:=zi g;have nW:=zi h;by_cases c1:g=[]
 ·first|(have qq7x:=qq7x;have fA:(str g).toList.isEmpty=true:=by rw[c1,zl];rfl)|(have fA:((str g).size:Int)<1:=by rw[gw,c1];decide)
  have he:Xd.err ⟨f,g,h⟩=40:=by simp[Xd.err,Xd.ok,c1]
  rw[he];clear gw nW c1 he;unfold xdV;first|(have qq7x:=qq7x;go_enter func121,ntmps121)|(go_enter func115,ntmps115)
  go_wp2_with(with_reducible refine h_A ?_);go_ret;exact⟨rfl,hB⟩
 first
 | have qq7x:=qq7x
   have fA:(str g).toList.isEmpty=false:=by rw[zl];simpa using c1
 | have fL:0<g.length:=List.length_pos_iff.2 c1
   have fA:decide (((str g).size:Int)<1)=false:=by simp;omega
 by_cases c2:64<g.length
 ·have o6:(64:Int)<((str g).size:Int):=by omega
  have he:Xd.err ⟨f,g,h⟩=40:=by simp[Xd.err,Xd.ok];omega
  rw[he];clear gw nW c1 he;unfold xdV;first|(have qq7x:=qq7x;go_enter func121,ntmps121)|(go_enter func115,ntmps115)
  go_wp2_with(with_reducible refine h_A ?_);go_ret;exact⟨rfl,hB⟩
 have o6:decide ((64:Int)<((str g).size:Int))=false:=by simp;omega
 by_cases c3:64<h.length
 ·have ir:(64:Int)<((str h).size:Int):=by omega
  have he:Xd.err ⟨f,g,h⟩=40:=by simp[Xd.err,Xd.ok];omega
  rw[he];clear gw nW c1 he;unfold xdV;first|(have qq7x:=qq7x;go_enter func121,ntmps121)|(go_enter func115,ntmps115)
  go_wp2_with(with_reducible refine h_A ?_);go_ret;exact⟨rfl,hB⟩
 have ir:¬(64:Int)<((str h).size:Int):=by omega
 have he:Xd.err ⟨f,g,h⟩=0:=by simp[Xd.err,Xd.ok];exact⟨c1,by omega,by omega⟩
 rw[he];clear gw nW c1 he;unfold xdV;first|(have qq7x:=qq7x;go_enter func121,ntmps121)|(go_enter func115,ntmps115)
 go_wp2_with(with_reducible refine h_A ?_);go_ret
 exact⟨rfl,hB⟩):p:=h
theorem Z1f_(h:p:=by
 obtain⟨b1,b2,b3,b4,ty,tr,ch,ld⟩:=f;obtain⟨h1,h2,h3⟩:=hw;simp only at h1 h2 h3 hl;have hB:Below w.heap.size w (w.alloc (.cells #[.bool b1,.bool b2,.bool b3,.bool b4,.int .u8 (ty:Int),.int .u8 (tr:Int),.int .u16 (ch:Int),.string (str ld)] 97)):=(Below.refl _ _).alloc (Nat.le_refl _) _;have dD:=zi ld;by_cases c1:3<ty
 ·have fA:(3:Int)<(ty:Int):=by omega
  have he:Fr.err ⟨b1,b2,b3,b4,ty,tr,ch,ld⟩=60:=by simp[Fr.err,Fr.ok];omega
  rw[he];unfold frV;first|(have qq7y:=qq7y;go_enter func65,ntmps65)|(go_enter func62,ntmps62)
  go_wp2_with(with_reducible refine h_A ?_);go_ret;exact⟨rfl,hB⟩
 have fA:decide ((3:Int)<(ty:Int))=false:=by simp;omega
 by_cases c2:15<tr
 ·have o6:(15:Int)<(tr:Int):=by omega
  have he:Fr.err ⟨b1,b2,b3,b4,ty,tr,ch,ld⟩=60:=by simp[Fr.err,Fr.ok];omega
  rw[he];unfold frV;first|(have qq7y:=qq7y;go_enter func65,ntmps65)|(go_enter func62,ntmps62)
  go_wp2_with(with_reducible refine h_A ?_);go_ret;exact⟨rfl,hB⟩
 have o6:decide ((15:Int)<(tr:Int))=false:=by simp;omega
 by_cases c3:4084<ld.length
 ·have ir:(4084:Int)<((str ld).size:Int):=by omega
  have he:Fr.err ⟨b1,b2,b3,b4,ty,tr,ch,ld⟩=60:=by simp[Fr.err,Fr.ok];omega
  rw[he];clear dD;unfold frV;first|(have qq7y:=qq7y;go_enter func65,ntmps65)|(go_enter func62,ntmps62)
  go_wp2_with(with_reducible refine h_A ?_);go_ret;exact⟨rfl,hB⟩
 have ir:¬(4084:Int)<((str ld).size:Int):=by omega
 have he:Fr.err ⟨b1,b2,b3,b4,ty,tr,ch,ld⟩=0:=by simp[Fr.err,Fr.ok];omega
 rw[he];clear dD;unfold frV;first|(have qq7y:=qq7y;go_enter func65,ntmps65)|(go_enter func62,ntmps62)
 go_wp2_with(with_reducible refine h_A ?_);go_ret
 exact⟨rfl,hB⟩):p:=h
theorem Z1g_(h:p:=by
 have BC:=v8 Hl;have b7:=kY hp w cs hb hs p h0 L8
 first
 | have qq7z:=qq7z
   have dD:=zi s;have mF:s.length≤100000000000:=by omega
   have HN:Hid (n+s.length=(l++s).length):=Lib.hid (by simp[BC])
 | have mF:m≤100000000000:=by omega
   have HN:Hid (n+m=(l++s).length):=Lib.hid (by simp[BC,hr.length])
 clear BC;first|(have qq7z:=qq7z;go_enter func35,ntmps35)|(go_enter func46,ntmps46)
 go_wp2_with(with_reducible refine h_B ?_);refine b7.mono ?_;rintro e w1 ⟨rfl,bK,bN,cy⟩;have k1:=bK.cell (QV h1);have cV:=zk Hl bN (fun k hk e=>hne zAb)
 first
 | done
 | have qq7z:=qq7z
 | have dQ:RdB w1 B A' m c' s:=⟨hr.len,hr.cap,hr.max,fun hm=>by
    obtain⟨b,o,e,dx,hc⟩:=hr.at_ hm;refine⟨b,o,e,dx,fun j u hu=>?_⟩;have h3:=hc j u hu;have dG:b<w.heap.size:=World.block_lt_of_cell? _ _ h3;(have eG:b≠g:=fun e'=>mE (by rw[e,e'];rfl));have hh:=bN.block b dG (fun e'=>eG (by injection e'));rw[←h3]
    simp only[World.cell?,hh]⟩
 have pP:base≤w1.heap.size:=by omega
 have HZ:=Lib.hid cy;clear cy;go_wp2_with(with_reducible refine h_B ?_);first|(have qq7z:=qq7z;refine zc (jB slB underlying9 rfl rfl rfl rfl cV Bw pP ?_))|(refine zc (yc slB rfl rfl rfl rfl cV dQ (zM _) Wq UJ pP ?_))
 intro A2 c2 w2 bW Hm gQ;rw[←List.map_append]at bW;have bF:=bK.grown Hm (fun e=>hne e.symm);have hlt:off+1<(cs.setIfInBounds off (bPtr g off)).size:=by rw[Array.size_setIfInBounds,hs];exact hp.lt
 first
 | done
 | have qq7z:=qq7z
 | have mr:blk A2=blk A∨∀k,blk A2=some k→w1.heap.size≤k:=gQ.imp id (fun e k hk=>by rw[e]at hk;injection hk with hk;omega)
   clear gQ
 go_wp2_with(with_reducible refine h_B ?_);first|(have qq7z:=qq7z;refine zc (xx rfl rfl rfl rfl bF (j:=off+1) (v:=.slice A2 (n+s.length) c2) rfl Wj hlt ?_))|(refine zc (xx rfl rfl rfl rfl bF (j:=off+1) (v:=.slice A2 (n+m) c2) rfl Wj hlt ?_))
 intro w3 bX H6 fR;clear fR;go_wp2_with(with_reducible refine h_B ?_);go_ret2
 first|(have qq7z:=qq7z;exact⟨rfl,QW hb Hl hne HN.out bK bN HZ.out bW Hm gQ bX H6⟩)|(exact⟨rfl,QW hb Hl hne HN.out bK bN HZ.out bW Hm mr bX H6⟩)):p:=h
theorem Z1h_(h:p:=by
 first
 | have qq80:=qq80
   have B6:=B5 A n c w hr;have AS:lb<w.heap.size:=World.block_lt_of_cell? _ _ h4;clear B5 hr
   go_enter func29,ntmps29
 | have B6:=B5 A n c w he hr
   clear B5 he hr;go_enter func36,ntmps36
 go_wp2_with(with_reducible refine h_A ?_);refine B6.mono ?_;rintro e w1 ⟨A1,c1,rfl,rT,Ha⟩;have fz:=jk (P:=prog) underlying55 underlying9 underlying5 rT.rd;obtain⟨gb,w2,bD,bo,hG,H3⟩:=zq w1 #[.int .u8 0,.string (str bs)] 84;have bZ:=yn (w:=w1) w1.heap.size #[.int .u8 0,.string (str bs)] 84 1 (Nat.le_refl _) WX (size:=2) rfl Wq;rw[←bo,←bD]at bZ;have mE:RdG w2 w2.heap.size (some ⟨gb,0,none⟩) 1 1 [⟨0,bs⟩]:=bZ.rd;have Hc:Below w.heap.size w w2:=Ha.trans (H3.mono Ha.size)
 first
 | have qq80:=qq80
   have ii:=Qp lb sz ⟨0,0,[⟨0,bs⟩]⟩ (some ⟨gb,0,none⟩) 1 1 w2 ((Hc.cell (p:=⟨lb,4,none⟩) AS).trans h4) Bw mE ⟨by simp,by simp,by simp⟩ Hz Wq
   clear B6 bZ mE hG H3 h4
 | have bF:=hb.below Hc
   have ii:=JD lb sz ⟨0,0,[⟨0,bs⟩]⟩ (some ⟨gb,0,none⟩) 1 1 w2 (bF.cell h4) Bw mE ⟨by simp,by simp,by simp⟩ Hz Wq;clear B6 bZ mE hG H3
 unfold asV at ii;simp only at ii;rw[show(((0:Nat)):Int)=0 from rfl]at ii;go_wp2_with(with_reducible refine h_A ?_);rw[←bD,←bo];clear bD bo
 (with_reducible refine ii.mono ?_)
 rintro e w3 ⟨rfl,Hh⟩
 first
 | have qq80:=qq80
   clear ii fz
 | have Hn:=Hc.trans (Hh.mono Hc.size)
   have bX:=hb.below Hn;have eM:=zh Hl Hn
   have BC:(jA ((sz:Int)-12) ⟨0,0,[⟨0,bs⟩]⟩).length≤67125248:=by
    have h1:=Z6 (cutF ((sz:Int)-12) ⟨0,0,[⟨0,bs⟩]⟩);have h2:=YF ((sz:Int)-12) ⟨0,0,[⟨0,bs⟩]⟩;unfold jA;omega
   have pq:=YG bplL w3 cs bX hs p h5 hp SA l (jA ((sz:Int)-12) ⟨0,0,[⟨0,bs⟩]⟩) h6 eM hne (by have:=Hn.size;omega) Wq;clear ii fz bF Hc Hh
 go_wp2_with(with_reducible refine h_A ?_)
 first
 | have qq80:=qq80
   go_ret
   exact⟨rfl,Hc.trans (Hh.mono Hc.size)⟩
 | refine pq.mono ?_
   rintro e w5 ⟨rfl,hW⟩;go_wp2;go_end0
   exact⟨rfl,hW.from Hn⟩):p:=h
theorem Z1i_(h:p:=by
 first
 | have qq83:=qq83
   (have hd:(16384:Int)-(SZ:Int)<(f.load.length:Int):=by omega);have bF:=et.bp;have dZ:=t7;have cH:=et.br;unfold asZ at cH;have Hc:=Bn;have SQ:Hid (g.err f=3):=Lib.hid (by rcases HR.out with h|h;cases h.2;rcases h.2 with h|h;exact h.1;omega);(have bI:=fun W=>bI W 3);have PW:=hm.lt mb AG
   clear et q0 q2 q3 q4 q5 q6 q7 q8 q9 Dk f0 f1 f2 f3 f4 f5 f6
 | have qq82:=qq82
   go_wp2_with(with_reducible refine h_B ?_);refine(b7 _).mono ?_;rintro e w7 ⟨rfl,dU⟩;have bF:=et.bp.below dU;have dZ:=yj t7 (dU.block mb t7.lt);have cH:=et.br.below dU;unfold asZ at cH;have Hc:=bG.trans (dU.mono bG.size);have SQ:Hid (g.err f=70):=Lib.hid (by rcases HR.out with h|h;exact h.1;cases h.1);(have bI:=fun W=>bI W 70);have PW:=hm.lt mb AG
   clear et q0 q1 q2 q3 q4 q5 q6 q7 q8 q9 Dk f0 f1 f2 f3 f4 f5 f6 f7
 | have WI:=Lib.hid he
   (have r9:f.err=60:=by simp[Fr.err,bJ]);rw[r9]at b7;clear he bJ r9 mf;(have bI:=fun W (hb:Box W pb 88 #[.map (some mb),.bool false]) (pf:W.ownsMap prog 156 rawV mb n D)=>QM pb mb n 60 false D W hb pf hne);have t7:=hm.owns;have AG:=hm.inF;clear pu;go_wp2_with(with_reducible refine h_B ?_);refine(b7 _).mono ?_;rintro e w2 ⟨rfl,H3⟩;have bF:=bK.below H3;have dZ:=yj t7 ((H3.block mb (Nat.lt_of_lt_of_le t7.lt Ha.size)).trans (Ha.block mb t7.lt));have cH:=bP.below H3;have Hc:=Ha.trans (H3.mono Ha.size);clear bK bP eD Ha f0 f1 f2 f3 f4 f5 f6 f7 c0 c1
 go_wp2_with(with_reducible refine h_B ?_);refine(bI _ bF dZ).mono ?_;rintro e wk ⟨rfl,lf,mN⟩;have iP:=zU cH mN (by intro e;have:=hm.lt mb AG;rcases e with e|e<;>omega);unfold asZ;go_wp2_with(with_reducible refine h_B ?_);refine zc (zn (v:=.agg #[.int .u16 0,.int .u8 0,.slice none 0 0]) (vs:=[.int .u16 0,.int .u8 0,.slice none 0 0]) rfl rfl rfl rfl iP rfl Wj Wz WZ #[.int .u16 0,.int .u8 0,.slice none 0 0] Wz ?_);intro wz nu BP ef;have eA:=lf.grown BP (sne Wq);have r8:KeepF F w wz:=((KeepF.below Hc).trans (mN.weak (G:=F) (by intro g hg;rcases hg with hg|hg<;>rw[hg];exact .inl hF;exact .inl AG)) (fun g hg=>.inl hg)).trans (.grown (F:=fun g=>g=rb) BP (fun g hg=>.inl Hq)) (fun g hg=>.inr (by rw[hg];exact lp));go_wp2_with(with_reducible refine h_B ?_)
 first|(have qq83:=qq83;exact zv rfl nu rfl rfl rfl underlying42 rfl Wj rfl (vY hlt eA hF hne r8 (k:=3) SQ.out Wq))|(have qq82:=qq82;exact zv rfl nu rfl rfl rfl underlying42 rfl Wj rfl (vY hlt eA hF hne r8 (k:=70) SQ.out Wq))|(exact zv rfl nu rfl rfl rfl underlying42 rfl Wj rfl (vY hlt eA hF hne r8 (k:=60) WI.out Wq))):p:=h
theorem Z6b_(h:p:=by
 go_wp2_with(with_reducible refine h_A ?_);go_ret2
 exact⟨none,0,rfl,Own.none_ _ _ _ _,Below.refl _ _⟩):p:=h
theorem Z4w_(h:p:=by
 rintro e w' ⟨rfl,rfl⟩
 exact Z6b_):p:=h
theorem Z1j_(h:p:=by
 first|(have qq85:=qq85;by_cases bQ:s.length<65536)|(have qq84:=qq84;by_cases bQ:s.length<256)|(by_cases bQ:s.length<4294967296)
 ·first|(have qq85:=qq85;have he:zE s.length 2=0:=by unfold zE;simp;omega)|(have qq84:=qq84;have he:zE s.length 1=0:=by unfold zE;simp;omega)|(have he:zE s.length 4=0:=by unfold zE;simp;omega)
  rw[he,yQ he]
  first
  | have qq85:=qq85
    have hz:(s.length:Int) / 65536=0:=by omega
    simp only[List.length_append,zr,show(2:Int).toNat=2 from rfl,hl]
  | have qq84:=qq84
    have hz:(s.length:Int) / 256=0:=by omega
    simp only[List.length_append,zr,show(1:Int).toNat=1 from rfl,hl]
  | have hz:(s.length:Int) / 4294967296=0:=by omega
    simp only[List.length_append,zr,show(4:Int).toNat=4 from rfl,hl]
  go_enter func102,ntmps102;go_wp2_with(with_reducible refine h_A ?_);refine(qm _ w).mono ?_;rw[hw];rintro e w' ⟨rfl,rfl⟩;go_wp2_with(with_reducible refine h_A ?_);first|(have qq85:=qq85;refine(ke s.length 2 w' Wq Wq Wq).mono ?_)|(have qq84:=qq84;refine(ke s.length 1 w' Wq Wq Wq).mono ?_)|(refine(ke s.length 4 w' Wq Wq Wq).mono ?_)
  rintro e w1 ⟨A1,rfl,cV,Ha⟩;go_wp2_with(with_reducible refine h_A ?_);refine zc (qj slB underlying9 rfl rfl rfl rfl cV Wq Ha.size ?_);intro A2 c2 w2 bW Hm;have Hc:Below w'.heap.size w' w2:=Ha.grown Hm Ha.size (fun g hg=>(cV.blk_lt hg).1);rw[←List.map_append]at bW;go_wp2_with(with_reducible refine h_A ?_)
  first
  | have qq85:=qq85
    refine(jo A n c l A2 (2+s.length) c2 (be 2 s.length++s) w2 ((hb.below Hc).more Hc.size) bW.rd Wq).mono ?_
  | have qq84:=qq84
    refine(jo A n c l A2 (1+s.length) c2 (be 1 s.length++s) w2 ((hb.below Hc).more Hc.size) bW.rd Wq).mono ?_
  | refine(jo A n c l A2 (4+s.length) c2 (be 4 s.length++s) w2 ((hb.below Hc).more Hc.size) bW.rd Wq).mono ?_
  rintro e w3 ⟨A3,rfl,Bv,Hh⟩;rw[←List.append_assoc]at Bv;go_wp2_with(with_reducible refine h_A ?_);go_ret2;rw[Nat.add_assoc];exact⟨A3,_,rfl,Bv.base_le Hc.size,Hc.trans (Hh.mono Hc.size)⟩
 first|(have qq85:=qq85;have he:zE s.length 2=3:=by unfold zE;simp;omega)|(have qq84:=qq84;have he:zE s.length 1=3:=by unfold zE;simp;omega)|(have he:zE s.length 4=3:=by unfold zE;simp;omega)
 rw[he,yO (by rw[he];omega)];first|(have qq85:=qq85;have hz:((s.length:Int) / 65536 !=0)=true:=by simp;omega)|(have qq84:=qq84;have hz:((s.length:Int) / 256 !=0)=true:=by simp;omega)|(have hz:((s.length:Int) / 4294967296 !=0)=true:=by simp;omega)
 go_enter func102,ntmps102;go_wp2_with(with_reducible refine h_A ?_);refine(qm _ w).mono ?_;rw[hw]
 exact Z4w_):p:=h
theorem Z1k_(h:p:=by
 first
 | have qq8a:=qq8a
   have d1:((xc:Int)!=(f.chan:Int))=true:=by simp;omega
   have mD:Hid ((M.take (j+1)).filter (fun x=> !onT f.chan f.track x)=(M.take j).filter (fun x=> !onT f.chan f.track x)++ [⟨q1,q2,q3,q4,xy,xt,xc,xl⟩]):=Lib.hid (by
    rw[HT.out,List.filter_append];have:onT f.chan f.track ⟨q1,q2,q3,q4,xy,xt,xc,xl⟩=false:=by unfold onT;simp;omega
    simp[this])
   clear rE e1
 | subst e1
   (have d1:((f.chan:Int)!=(f.chan:Int))=false:=by simp);have d2:((xt:Int)!=(f.track:Int))=true:=by simp;omega
   have mD:Hid ((M.take (j+1)).filter (fun x=> !onT f.chan f.track x)=(M.take j).filter (fun x=> !onT f.chan f.track x)++ [⟨q1,q2,q3,q4,xy,xt,f.chan,xl⟩]):=Lib.hid (by
    rw[HT.out,List.filter_append];have:onT f.chan f.track ⟨q1,q2,q3,q4,xy,xt,f.chan,xl⟩=false:=by unfold onT;simp;omega
    simp[this])
   clear rE d1
 go_upto_region 35 with fail;try simp only[Act.put]
 go_quiet(fail);have dL:=za hB nq;have ej:=pE.out _ dL;clear k0 k1 k2 k3 k4 k5 k6 k7;have k0:=ej 0 _ rfl;have k1:=ej 1 _ rfl;have k2:=ej 2 _ rfl;have k3:=ej 3 _ rfl;have k4:=ej 4 _ rfl;have k5:=ej 5 _ rfl;have k6:=ej 6 _ rfl;have k7:=ej 7 _ rfl;simp only[Nat.add_zero]at k0;have Cx:OwnF (wr.drewN nq) w8.heap.size A6 m c6 ((M.take j).filter (fun x=> !onT f.chan f.track x)):=hO.drewN nq;have g0:=(H5.below dL).c0;clear ej hO hB f5 f6 sH Ab;generalize wr.drewN nq=ws at*;go_wp2_with(with_reducible refine h_A ?_);first|(have qq8a:=qq8a;refine zc (jS yE slF underlying65 rfl rfl rfl rfl rfl (⟨q1,q2,q3,q4,xy,xt,xc,xl⟩:Fr) rfl Cx Wq Wq dL.size ?_))|(refine zc (jS yE slF underlying65 rfl rfl rfl rfl rfl (⟨q1,q2,q3,q4,xy,xt,f.chan,xl⟩:Fr) rfl Cx Wq Wq dL.size ?_))
 intro A7 c7 wa tR cU Oc hBa;rw[←mD.out]at tR;have Hc:=dL.trans hBa;clear Cx cU Oc hBa k0 k1 k2 k3 k4 k5 k6 k7 g0;go_wp2_with(with_reducible refine h_A ?_)
 exact⟨⟨j+1,m+1,c7,A7,by omega,by go_num,rfl,by omega,tR,Hc⟩,by simp[RowKit.intOf];omega⟩):p:=h
theorem Z1l_(h:p:=by
 first
 | have qq8i:=qq8i
   skip
   have hm:xv k=255:=hM _ dA
 | have qq8h:=qq8h
   skip
   have hm:xv k=255:=hM _ dA
 | have qq8g:=qq8g
   skip
   have hm:xv k=255:=hM _ dA
 | have qq8f:=qq8f
   skip
   have hm:xv k=16:=hM _ dA
 | have qq8e:=qq8e
   skip
   have hm:xv k=3:=hM _ dA
 | have qq8d:=qq8d
   skip
   have hm:xv k=15:=hM _ dA
 | have qq8c:=qq8c
   skip
   have hm:xv k=15:=hM _ dA
 | have qq8b:=qq8b
   skip
   have hm:xv k=0:=hM _ dA
 | have wF:xv k=0:=by
    obtain⟨j,rfl⟩:=Nat.exists_eq_add_of_le' dA;rfl
   have hm:xv k=0:=wF
 rw[hm]at HY cJ;first|have f0:((k:Int)==0)=true:=zD (v:=0) Wq|have f0:((k:Int)==0)=false:=zS (v:=0) Wq
 first|have f5:((k:Int)==5)=true:=zD (v:=5) Wq|have f5:((k:Int)==5)=false:=zS (v:=5) Wq
 first|have f1:((k:Int)==1)=true:=zD (v:=1) Wq|have f1:((k:Int)==1)=false:=zS (v:=1) Wq
 first|have f2:((k:Int)==2)=true:=zD (v:=2) Wq|have f2:((k:Int)==2)=false:=zS (v:=2) Wq
 first|have f3:((k:Int)==3)=true:=zD (v:=3) Wq|have f3:((k:Int)==3)=false:=zS (v:=3) Wq
 first|have f6:((k:Int)==6)=true:=zD (v:=6) Wq|have f6:((k:Int)==6)=false:=zS (v:=6) Wq
 first|have f7:((k:Int)==7)=true:=zD (v:=7) Wq|have f7:((k:Int)==7)=false:=zS (v:=7) Wq
 clear dA hm hM;first|(have qq8i:=qq8i;by_cases hx:x≤255)|(have qq8h:=qq8h;by_cases hx:x≤255)|(have qq8g:=qq8g;by_cases hx:x≤255)|(have qq8f:=qq8f;by_cases hx:x≤16)|(have qq8e:=qq8e;by_cases hx:x≤3)|(have qq8d:=qq8d;by_cases hx:x≤15)|(have qq8c:=qq8c;by_cases hx:x≤15)|(by_cases hx:x≤0)
 ·first
  | have qq8i:=qq8i
    have ir:¬(255:Int)<(x:Int):=by omega
  | have qq8h:=qq8h
    have ir:¬(255:Int)<(x:Int):=by omega
  | have qq8g:=qq8g
    have ir:¬(255:Int)<(x:Int):=by omega
  | have qq8f:=qq8f
    have ir:¬(16:Int)<(x:Int):=by omega
  | have qq8e:=qq8e
    have ir:¬(3:Int)<(x:Int):=by omega
  | have qq8d:=qq8d
    have ir:¬(15:Int)<(x:Int):=by omega
  | have qq8c:=qq8c
    have ir:¬(15:Int)<(x:Int):=by omega
  | have ir:¬(0:Int)<(x:Int):=by omega
  have HQ:=Lib.hid (HY.out hx);clear hx HY cJ;go_wp2_with(with_reducible refine h_A ?_);exact⟨⟨k+1,by omega,by go_num,HQ.out,trivial⟩,by simp[intOf];omega⟩
 first
 | have qq8i:=qq8i
   have ir:(255:Int)<(x:Int):=by omega
 | have qq8h:=qq8h
   have ir:(255:Int)<(x:Int):=by omega
 | have qq8g:=qq8g
   have ir:(255:Int)<(x:Int):=by omega
 | have qq8f:=qq8f
   have ir:(16:Int)<(x:Int):=by omega
 | have qq8e:=qq8e
   have ir:(3:Int)<(x:Int):=by omega
 | have qq8d:=qq8d
   have ir:(15:Int)<(x:Int):=by omega
 | have qq8c:=qq8c
   have ir:(15:Int)<(x:Int):=by omega
 | have ir:(0:Int)<(x:Int):=by omega
 have BO:=cJ.out Wq;clear hx HY cJ;go_wp2_with(with_reducible refine h_A ?_);go_ret;rw[BO]
 exact⟨rfl,Below.refl _ _⟩):p:=h
theorem Z1m_(h:p:=by
 have AR:∀(fn:Fn) (first cap:Array Value) (w:World),(Instr.makeFunc fn first cap).run prog w= .ok (.func fn first cap) w:=fun _ _ _ _=>rfl
 obtain⟨cb,w1,Bm,fz,hC,Ha⟩:=zg w #[.pointer (some ⟨ab,0,none⟩)] 198;have CP:=ha.lt;have hK:=(KP.refl B rb ab w).below Wq Ha;have bC:=hC.lt
 first
 | have qq8p:=qq8p
   have rF:=js 158 #[.pointer (some ⟨cb,0,none⟩)] (fun _ _=>rfl) (h.kp ((KP.refl B ab ab w).below Wq Ha) (Ne.symm hne) (Ne.symm hne)) hB _ #[.bool is,.int .u64 0,.string (str T.1),.int .u32 0,.string ⟨#[]⟩,.string ⟨#[]⟩,.slice none 0 0,.int .u8 0,.int .u64 0,.string ⟨#[]⟩,.slice none 0 0,.slice none 0 0] (ha.below Ha) Bo hne T.2.1 T.2.2 Ch (fun W o vb F ew hr hF ha=>by
    have hv:=hF vb (hr.inF rfl)
    exact zcC is T hT hr (hC.below ew) ha Mj Wq Wq Wq Bo Wq zAa)
 | have qq8o:=qq8o
   have rF:=js 156 #[.pointer (some ⟨cb,0,none⟩)] (fun _ _=>rfl) (h.kp ((KP.refl B ab ab w).below Wq Ha) (Ne.symm hne) (Ne.symm hne)) hB _ #[.bool is,.int .u64 0,.string (str T.1),.int .u32 0,.string ⟨#[]⟩,.string ⟨#[]⟩,.slice none 0 0,.int .u8 0,.int .u64 0,.string ⟨#[]⟩,.slice none 0 0,.slice none 0 0] (ha.below Ha) Bo hne T.2.1 T.2.2 Ch (fun W o vb F ew hr hF ha=>by
    have hv:=hF vb (hr.inF rfl)
    exact zbl is T hT hr (hC.below ew) ha Mj Wq Wq Wq Bo Wq zAa)
 | have qq8n:=qq8n
   have rF:=js 155 #[.pointer (some ⟨cb,0,none⟩)] (fun _ _=>rfl) (h.kp ((KP.refl B ab ab w).below Wq Ha) (Ne.symm hne) (Ne.symm hne)) hB _ #[.bool is,.int .u64 (T.1:Int),.string ⟨#[]⟩,.int .u32 0,.string ⟨#[]⟩,.string ⟨#[]⟩,.slice none 0 0,.int .u8 0,.int .u64 0,.string ⟨#[]⟩,.slice none 0 0,.slice none 0 0] (ha.below Ha) Bo hne T.2.1 T.2.2 Ch (fun W o vb F ew hr hF ha=>by
    have hv:=hF vb (hr.inF rfl)
    exact zcB is T hT hr (hC.below ew) ha Mj Wq Wq Wq Bo Wq zAa)
 | have qq8m:=qq8m
   have rF:=js 154 #[.pointer (some ⟨cb,0,none⟩)] (fun _ _=>rfl) (h.kp ((KP.refl B ab ab w).below Wq Ha) (Ne.symm hne) (Ne.symm hne)) hB _ #[.bool is,.int .u64 (T.1:Int),.string ⟨#[]⟩,.int .u32 0,.string ⟨#[]⟩,.string ⟨#[]⟩,.slice none 0 0,.int .u8 0,.int .u64 0,.string ⟨#[]⟩,.slice none 0 0,.slice none 0 0] (ha.below Ha) Bo hne T.2.1 T.2.2 Ch (fun W o vb F ew hr hF ha=>by
    have hv:=hF vb (hr.inF rfl)
    exact zcA is T hT hr (hC.below ew) ha Mj Wq Wq Wq Bo Wq zAa)
 | have rF:=js 153 #[.pointer (some ⟨cb,0,none⟩)] (fun _ _=>rfl) (h.kp ((KP.refl B ab ab w).below Wq Ha) (Ne.symm hne) (Ne.symm hne)) hB _ #[.bool is,.int .u64 (T.1:Int),.string ⟨#[]⟩,.int .u32 0,.string ⟨#[]⟩,.string ⟨#[]⟩,.slice none 0 0,.int .u8 0,.int .u64 0,.string ⟨#[]⟩,.slice none 0 0,.slice none 0 0] (ha.below Ha) Bo hne T.2.1 T.2.2 Ch (fun W o vb F ew hr hF ha=>by
    have hv:=hF vb (hr.inF rfl)
    exact zcz is T hT hr (hC.below ew) ha Mj Wq Wq Wq Bo Wq zAa)
 obtain⟨lr,fp⟩:∃x,x=(if(bad||T.2.2)=true then l else l.drop (l.length-T.2.1.length)):=⟨_,rfl⟩
 obtain⟨br,bU⟩:∃x,x=(bad||T.2.2):=⟨_,rfl⟩
 rw[←fp,←bU]at rF ⊢;clear fp bU;first|(have qq8p:=qq8p;go_enter func132,ntmps132)|(have qq8o:=qq8o;go_enter func131,ntmps131)|(have qq8n:=qq8n;go_enter func130,ntmps130)|(have qq8m:=qq8m;go_enter func129,ntmps129)|(go_enter func128,ntmps128)
 go_upto_region 1 with fail;rw[←Bm,←fz];clear Bm fz;go_wp2_with(with_reducible refine h_A ?_);refine rF.mono ?_;rintro e w2 Bu;have cH:=Bu.from hK;obtain⟨rfl,_⟩:=Bu;go_wp2_with(with_reducible refine h_A ?_);go_end0
 exact cH):p:=h
theorem Z1n_(h:p:=by
 first
 | have qq8q:=qq8q
   have g2:((q:Int)==1)=true:=by simp[eN]
   have h0:xD (s.drop pos)=0:=by
    (refine Classical.byContradiction fun h0=>?_);have h:=HD.out;rw[if_neg h0]at h;exact h.2 GV (by rw[←h.1,eN])
   have HF:Hid (zJ s=false):=Lib.hid (by rw[←HC.out,Yg fE.out h0])
   clear h0 eN GV gu
 | have g2:((q:Int)==1)=false:=by simp;omega
   have bV:xD (s.drop pos)≠0∧q=xD (s.drop pos):=by
    have h:=HD.out;split at h
    ·injection h with e1 e2;exact absurd e2 eN
    rename_i h0;exact⟨h0,h.1⟩
   have cL:Hid (zJ (s.drop (pos+q))=zJ s):=Lib.hid (by rw[←HC.out,vD fE.out bV.1,List.drop_drop,←bV.2]);rw[←bV.2]at gu;clear bV GV
 go_wp2_with(first|(with_reducible refine zZ ?_)|(with_reducible refine yr ?_)|(with_reducible refine yq ?_)|(with_reducible refine yg ?_)|(with_reducible refine yt (s:=9) (t:=55) ?_));refine zc (X8 underlying9 rfl rfl rfl (l:=s) pos s.length (.inr ⟨_,_,rfl,rfl⟩) (.inl ⟨rfl,rfl⟩) Wq Wq ?_);rw[List.take_length];go_wp2_with(first|(with_reducible refine zZ ?_)|(with_reducible refine yr ?_)|(with_reducible refine yq ?_)|(with_reducible refine yg ?_)|(with_reducible refine yt (s:=9) (t:=55) ?_));refine Fu.mono ?_;rintro e w3 ⟨rfl,Hh⟩
 first
 | done
 | have qq8q:=qq8q
 | have fo:w3.heap[k]?=some (.stringIter (str s) (pos+q)):=(Hh.block k (Array.getElem?_eq_some_iff.1 Bk).1).trans Bk
   have aN:=Lib.hid (YN fo)
 go_wp2_with(first|(with_reducible refine zZ ?_)|(with_reducible refine yr ?_)|(with_reducible refine yq ?_)|(with_reducible refine yg ?_)|(with_reducible refine yt (s:=9) (t:=55) ?_))
 first
 | have qq8q:=qq8q
   go_ret;rw[HF.out]
   exact⟨rfl,Hc.trans (Hh.mono Hc.size)⟩
 | exact⟨⟨pos+q,by omega,fo,cL,Hc.trans (Hh.mono Hc.size)⟩,by rw[HP.out,aN.out];omega⟩):p:=h
theorem Z1o_(h:p:=by
 first
 | have qq8w:=qq8w
   simp only[decide_eq_false h5]at wv;have HF:Hid (zy a b=false):=Lib.hid (by rw[HS.out];simp[h5])
   clear h1 h2 h3 h4 h5 HS cM
 | simp only[decide_eq_true h5]at wv
   have HF:Hid (zy a b=yJ a.v b.v):=Lib.hid (by rw[HS.out];simp[h1,h2,h3,h4,h5]);clear h1 h2 h3 h4 h5 HS
 go_enter func106,ntmps106;go_upto_region 1 with fail;rw[←Hg,←Hi,BU,←dF];clear Hg Hi BU dF;go_wp2_with(with_reducible refine h_A ?_);refine wv.mono ?_;rintro e w3 ⟨rfl,Hh⟩
 first
 | done
 | have qq8w:=qq8w
 | have Is:=cM w3 Hh
   have bS:=Hk.below Hh;have ia:=hY.below Hh;have o8:=hB.trans (Hh.mono hB.size);clear c_0 c_1 c_2 c_3 c_4 c_5 c_6 c_7 c_8 c_9 c_10 c_11;clear d_0 d_1 d_2 d_3 d_4 d_5 d_6 d_7 d_8 d_9 d_10 d_11;clear wv cM;have c_0:=bS.c0;have c_1:=bS.c1;have c_2:=bS.c2;have c_3:=bS.c3;have c_4:=bS.c4;have c_5:=bS.c5;have c_6:=bS.c6;have c_7:=bS.c7;have c_8:=bS.c8;have c_9:=bS.c9;have c_10:=bS.c10;have c_11:=bS.c11;have d_0:=ia.c0;have d_1:=ia.c1;have d_2:=ia.c2;have d_3:=ia.c3;have d_4:=ia.c4;have d_5:=ia.c5;have d_6:=ia.c6;have d_7:=ia.c7;have d_8:=ia.c8;have d_9:=ia.c9;have d_10:=ia.c10;have d_11:=ia.c11;generalize yJ a.v b.v=r at*;go_wp2_with(with_reducible refine h_A ?_);refine Is.mono ?_
   (rintro e w4 ⟨rfl,Hn⟩)
 clear c_0 c_1 c_2 c_3 c_4 c_5 c_6 c_7 c_8 c_9 c_10 c_11;clear d_0 d_1 d_2 d_3 d_4 d_5 d_6 d_7 d_8 d_9 d_10 d_11;first|(have qq8w:=qq8w;clear wv)|(clear Is)
 go_wp2_with(with_reducible refine h_A ?_);go_ret;rw[HF.out]
 first|(have qq8w:=qq8w;exact⟨rfl,hB.trans (Hh.mono hB.size)⟩)|(exact⟨rfl,o8.trans (Hn.mono o8.size)⟩)):p:=h
theorem Z1p_(h:p:=by
 obtain⟨rb,w0,bD,bo,hr,Hy⟩:=zq w #[.bool false,.int .u64 0,.string ⟨#[]⟩,.int .u32 0,.string ⟨#[]⟩,.string ⟨#[]⟩,.slice none 0 0,.int .u8 0,.int .u64 0,.string ⟨#[]⟩,.slice none 0 0,.slice none 0 0] 80;have nD:w.heap.size≤rb:=by omega
 first|(have qq8y:=qq8y;go_enter func30,ntmps30)|(go_enter func37,ntmps37)
 go_wp2_with(with_reducible refine h_B ?_);rw[←bD,←bo];clear bD bo;refine zc (zn (v:=.agg #[.bool true,.int .u64 (n:Int),.string (str s),.int .u32 0,.string ⟨#[]⟩,.string ⟨#[]⟩,.slice none 0 0,.int .u8 0,.int .u64 0,.string ⟨#[]⟩,.slice none 0 0,.slice none 0 0]) (vs:=[.bool true,.int .u64 (n:Int),.string (str s),.int .u32 0,.string ⟨#[]⟩,.string ⟨#[]⟩,.slice none 0 0,.int .u8 0,.int .u64 0,.string ⟨#[]⟩,.slice none 0 0,.slice none 0 0]) rfl rfl rfl rfl hr rfl Wj Wz WZ #[.bool true,.int .u64 (n:Int),.string (str s),.int .u32 0,.string ⟨#[]⟩,.string ⟨#[]⟩,.slice none 0 0,.int .u8 0,.int .u64 0,.string ⟨#[]⟩,.slice none 0 0,.slice none 0 0] Wz ?_);intro w1 dQ bN cy;clear cy;have Ha:Below w.heap.size w w1:=Hy.grown bN Hy.size Wx;go_wp2_with(with_reducible refine h_B ?_)
 exact xH rfl dQ rfl underlying80 rfl Wj rfl ⟨rfl,Ha⟩):p:=h
theorem Z1q_(h:p:=by
 go_simp;first|(have qq92:=qq92;refine hK _ _ hS ?_)|(refine hK _ _ (hS.alloc _) ?_)
 clear hK K;try simp only[g_S]
 first
 | have qq92:=qq92
   refine zj 6 rfl Wj rfl (fun K hK=>?_)
 | have k8:=(NM.alloc (.cells #[.int .u16 (a.chan:Int),.int .u8 (a.track:Int),.slice A a.segs.length c] 42)).cell h7
   refine zj 4 rfl Wj rfl (fun K hK=>?_)
 go_simp;refine hK _ _ (hS.alloc _) ?_;first|(have qq92:=qq92;clear hK K)|(clear hK K k8)
 try simp only[g_S]
 refine zj 7 rfl Wj rfl (fun K hK=>?_);refine jR (W:=wd) kE slTA underlying29 rfl rfl rfl rfl (⟨a,A,c⟩:TAs) rfl hO (show(L.told.length+1)*32≤140737488355328 by omega) (show L.told.length≤1000000000 by omega) iT ?_;intro A2 c2 w2 iE Hm gQ Hc;have lY:=NM.grown Hm (fun e=>(Eg lb e.symm).2 rfl);have BI:=hS.grown Hm (fun e=>Nv tb e.symm rfl);refine hK _ _ BI ?_;clear hK K;try simp only[g_S]
 refine rg_t 8 BI ?_;simp only[g_S];refine rg_t 9 BI ?_;simp only[g_S];have k8:=lY.cell h7;have k9:=lY.thaw 7;refine zj 10 rfl Wj rfl (fun K hK=>?_);go_simp;refine hK _ _ (BI.grown (yC w2 lb 7 (.slice A2 (L.told.length+1) c2)) (fun e=>hlt uQ)) ?_;clear hK K k7 k8 k9;refine zz Wj ?_;go_wp2_with(with_reducible refine h_A ?_);go_end0
 exact⟨rfl,by rw[N6.out];exact iN (LStep.from B0 (dR a A c w2 _ A2 c2 Tr hA iE Hm gQ (xW lY _) (yC w2 lb 7 _)))⟩):p:=h
theorem Z1r_(h:p:=by
 have d1:¬(str s).toList=[]:=by rw[zl];exact q1
 have d0:(str s).toList.isEmpty=false:=by rw[zl];simpa using q1
 by_cases q2:s=[47]
 ·first|(have qq94:=qq94;have l6:Hid (Y=false):=Lib.hid (by rw[hY];simp[q2]))|(have HR:=Lib.hid (show L.opened s={L.send Zp with st:=4} by unfold LS.opened;rw[if_neg (fun e=>e.2 q2)]))
  subst q2;have d2:(str [47]).toList=[47]:=by rw[zl]
  first
  | have qq94:=qq94
    clear hY q1;go_wp2_with fail;go_meet
    case rel=>exact⟨by rw[l6.out],rfl⟩
  | clear Bc q1
    go_wp2_with(with_reducible refine h_A ?_)
    (with_reducible refine fy.mono ?_)
    rintro e w5 ⟨rfl,bV⟩;clear fy;have iU:=bV;obtain⟨U',T',hM,_,_,_⟩:=bV;have c0:=hM.c0;have c1:=hM.thaw 0;clear hM;go_wp2_with(with_reducible refine h_A ?_);go_end0;exact⟨rfl,by rw[HR.out];exact(LStep.from Hy iU).set h.lb 0 _ (fun _ _ hM=>hM.setSt 4)⟩
 first|(have qq94:=qq94;have l6:Hid (Y=true):=Lib.hid (by rw[hY];simp[q1,q2]))|(have HR:=Lib.hid (show L.opened s=L.close 402 kL by unfold LS.opened;rw[if_pos ⟨q1,q2⟩]))
 have d2:¬(str s).toList=[47]:=by rw[zl];exact q2
 have d3:((str s).toList== [47])=false:=by rw[zl];simpa using q2
 first
 | have qq94:=qq94
   clear hY q1 q2;go_wp2_with fail;go_meet
   case rel=>exact⟨by rw[l6.out],rfl⟩
 | clear fy q1 q2
   go_wp2_with(with_reducible refine h_A ?_)
   (with_reducible refine Bc.mono ?_)
   rintro e w9 ⟨rfl,bV⟩;clear Bc;go_wp2_with(with_reducible refine h_A ?_);refine bodyPost_ret (results_none rfl _ _ _) rfl ?_
   exact⟨rfl,by rw[HR.out];exact LStep.from Hy bV⟩):p:=h
theorem Z1s_(h:p:=by
 first|(have qq97:=qq97;unfold wtL at hk)|(unfold jX at hk)
 simp only[List.mem_cons,List.not_mem_nil,or_false]at hk
 first
 | have qq97:=qq97
   (rcases hk with rfl|rfl|rfl)
 | rcases hk with rfl|rfl|rfl|rfl|rfl|rfl|rfl|rfl|rfl
   ·exact zc3 a h base A n c l w Hl Hf hn ha
   ·by_cases hv:a.n<256
    ·(have e:okA 110 a=zy a (agN a):=by unfold okA;simp[hv]);rw[e];exact zc7 a h base A n c l w Hl Hf hn ha hv
    (have e:okA 110 a=false:=by unfold okA;simp[hv]);rw[e];exact KT a h base A n c l w Hl Hf hn ha Wq
 ·by_cases hv:a.n<65536
  ·(have e:okA 119 a=zy a (agN a):=by unfold okA;simp[hv]);rw[e];exact zbR a h base A n c l w Hl Hf hn ha hv
  have e:okA 119 a=false:=by unfold okA;simp[hv]
  rw[e];exact Xk a h base A n c l w Hl Hf hn ha Wq
 first
 | done
 | have qq97:=qq97
 | ·by_cases hv:a.n<4294967296
    ·(have e:okA 100 a=zy a (agN a):=by unfold okA;simp[hv]);rw[e];exact zc8 a h base A n c l w Hl Hf hn ha hv
    (have e:okA 100 a=false:=by unfold okA;simp[hv]);rw[e];exact KU a h base A n c l w Hl Hf hn ha Wq
 ·exact zbP a h base A n c l w Hl Hf hn ha
 ·exact zbQ a h base A n c l w Hl Hf hn ha
 first
 | done
 | have qq97:=qq97
 | ·exact zc4 a h base A n c l w Hl Hf hn ha
   ·exact zc5 a h base A n c l w Hl Hf hn ha
   ·exact zc6 a h base A n c l w Hl Hf hn ha hT):p:=h
theorem Z1t_(h:p:=by
 first|done|(have qq98:=qq98)|(have dh:=World.block_lt_of_cell? W _ hb)
 unfold vlV at bO ⊢;obtain⟨xb,w1,bD,bo,hX,Ha⟩:=zg W #[.int .u8 (x.kind:Int),.int .u64 (x.n:Int),.string (str x.s),.slice hx.A1 x.keys.length hx.c1,.slice hx.A2 x.list.length hx.c2] 78
 first
 | done
 | have qq98:=qq98
 | have bK:w1.cell? ⟨bx,0,none⟩=some (.int .i64 ((m+1:Nat):Int)):=(Ha.cell (p:=⟨bx,0,none⟩) dh).trans hb
   have hw:IntKind.i64.wrap (((m+1:Nat):Int)-1)=(m:Int):=by rw[IntWalk.i64_in _ ⟨by omega,by omega⟩];omega
 have dQ:=bO w1 Ha;have c0:=hX.c0;have c1:=hX.c1;have c2:=hX.c2;have c3:=hX.c3;have c4:=hX.c4
 first
 | have qq98:=qq98
   clear bO;unfold MayR at dQ;generalize mayV zJ x=r at*
   go_enter func175,ntmps175
 | clear bO hb
   (obtain⟨q,hq⟩:∃q:Int,q=((m+1:Nat):Int):=⟨_,rfl⟩);rw[←hq]at bK hw;(have oH:q-1=(m:Int):=by omega);(have FZ:0<q:=by omega);(have sZ:q≤1001:=by omega);clear hq;unfold Qo at dQ ⊢;generalize xK m x=r at*;go_enter func172,ntmps172
 go_upto_region 1 with fail;rw[←bD,←bo];clear bD bo;go_wp2_with(with_reducible refine h_A ?_);refine dQ.mono ?_
 exact Z59_):p:=h
theorem Z3z_(h:p:=by
 first
 | have qqi4:=qqi4
   (have Sr:¬(12:Int)≤(N:Int):=by omega);have hv:zN b=false:=by rw[sm.out];simp[gc]
   clear gc
 | have qqi3:=qqi3
   (have O7:(N:Int)≤4096:=by omega);have hv:zN b=true:=by rw[sm.out];simp[gc,Cr]
   clear gc Cr
 | have O7:decide ((N:Int)≤4096)=false:=by simp;omega
   (have hv:zN b=false:=by rw[sm.out];simp[Cr]);clear gc Cr
 go_wp2_with(with_reducible refine h_A ?_);go_quiet(fail);go_wp2_with(with_reducible refine h_A ?_);go_ret;first|rw[hv]|skip
 exact⟨rfl,za (Below.refl _ _) _⟩):p:=h
theorem Z1u_(h:p:=by
 first
 | have qq99:=qq99
   have fA:¬(k:Int)<(n:Int):=by omega
 | have fA:(k:Int)<(n:Int):=by omega
   have o6:¬(k:Int)<12:=by omega
 clear pz f8;by_cases gc:12≤N
 ·have Sr:(12:Int)≤(N:Int):=by omega
  by_cases Cr:N≤4096
  ·have qqi3:=();exact Z3z_
  exact Z3z_
 have qqi4:=()
 exact Z3z_):p:=h
theorem Z1v_(h:p:=by
 first|done|(have qq9a:=qq9a)|(have hKl:∀g,blk AK=some g→g<w5.heap.size:=fun g hg=>(h.kown.blk_lt hg).2)
 have hF:∀g,FB2 base A AK w5 g→FB2 base A2 AK w6 g:=fun g bN=>⟨bN.1,Nat.lt_of_lt_of_le bN.2.1 hg.size,by
  rcases hA with e|e
  ·rw[e];exact bN.2.2.1
  ·intro e2;have:=e g e2;have:=bN.2.1;omega,bN.2.2.2⟩
 have hk:∀g,FB2 base A AK w5 g→w6.heap[g]?=w5.heap[g]?:=fun g bN=>hg.block g bN.2.1 (fun e=>bN.2.2.1 e.symm)
 first
 | have qq9a:=qq9a
   have Rf:∀g,FN W4 w5 g→FB2 base A AK w5 g:=fun g bN=>⟨Nat.le_trans iT bN.1,bN.2,fun e=>by have:=h4 g (.inl e);have:=bN.1;omega,fun e=>by have:=h4 g (.inr e);have:=bN.1;omega⟩
   exact(((hv.mono Rf).keep hk hg.size).mono hF)
 | refine⟨by rw[List.length_append];exact ho,zk h.kown hg (fun g hg e=>h.ne g e hg),fun g hg e=>?_,fun p hp=>?_⟩
   ·rcases hA with e2|e2
    ·exact h.ne g (by rw[←e2,hg]) e
    have:=hKl g e;have:=e2 g hg;omega
   rcases List.mem_append.1 hp with hp|hp
   ·exact((h.el p hp).keep hk hg.size).mono hF
   ·obtain rfl:=List.mem_singleton.1 hp;have Rf:∀g,FN W4 w5 g→FB2 base A AK w5 g:=fun g bN=>⟨Nat.le_trans iT bN.1,bN.2,fun e=>by have:=h4 g (.inl e);have:=bN.1;omega,fun e=>by have:=h4 g (.inr e);have:=bN.1;omega⟩
    exact(((hv.mono Rf).keep hk hg.size).mono hF)):p:=h
theorem Z68_(h:p:=by
 go_wp2_with(with_reducible refine h_A ?_);go_meet
 exact⟨rfl,rfl,rfl,rfl⟩):p:=h
theorem Z1w_(h:p:=by
 have a2:(194:Int)≤(b:Int):=by omega
 have a3:¬(b:Int)≤223:=by omega
 have a4:(224:Int)≤(b:Int):=by omega
 first
 | have qq9e:=qq9e
   (have a5:(b:Int)≤239:=by omega);obtain⟨rfl,rfl,rfl⟩:=sw_3 Gw.out c3
   by_cases d1:b=224
 | have a5:¬(b:Int)≤239:=by omega
   (have a6:(240:Int)≤(b:Int):=by omega);(have a7:(b:Int)≤244:=by omega);obtain⟨rfl,rfl,rfl⟩:=sw_4 Gw.out c4;by_cases d1:b=240
 ·subst d1;exact Z68_
 first
 | have qq9e:=qq9e
   have d2:((b:Int)==224)=false:=by simp;omega
   have d3:(if b=224 then 160 else 128)=128:=if_neg d1
 | have d2:((b:Int)==240)=false:=by simp;omega
   have d3:(if b=240 then 144 else 128)=128:=if_neg d1
 have P8:=Lib.hid d3;clear d3;first|(have qq9e:=qq9e;by_cases e1:b=237)|(by_cases e1:b=244)
 ·subst e1;exact Z68_
 first
 | have qq9e:=qq9e
   have e2:((b:Int)==237)=false:=by simp;omega
   have e3:(if b=237 then 159 else 191)=191:=if_neg e1
 | have e2:((b:Int)==244)=false:=by simp;omega
   have e3:(if b=244 then 143 else 191)=191:=if_neg e1
 have PX:=Lib.hid e3;clear e3;go_wp2_with(with_reducible refine h_A ?_);go_meet
 exact⟨rfl,by rw[P8.out];rfl,by rw[PX.out];rfl,rfl⟩):p:=h
theorem Z6d_(h:p:=by
 go_wp2_with(with_reducible refine h_A ?_);go_ret
 exact⟨by rw[HV.out];rfl,bP⟩):p:=h
theorem Z4n_(h:p:=by
 have HV:=Lib.hid (HA.out.trans (if_neg (fun e=>by have:=refShape_iff.1 e;omega)))
 exact Z6d_):p:=h
theorem Z4r_(h:p:=by
 have HV:=Lib.hid (HA.out.trans (if_pos (refShape_iff.2 Wq)))
 exact Z6d_):p:=h
theorem Z1x_(h:p:=by
 first
 | have qq9j:=qq9j
   (have d0:((tr:Nat):Int)=0:=by omega);rw[d0]at x1;clear d0
   by_cases b1:i=1
 | obtain rfl:i=3:=by omega
   by_cases q1:t1=2
 ·first
  | have qq9j:=qq9j
    subst b1;obtain⟨b,off,rfl,z0⟩:=Gy 0 Wq;rw[←H0.out]at z0;simp only[Nat.zero_mul,Nat.add_zero]at z0
    by_cases q0:t0=0
  | rw[show((t1:Nat):Int)=2 by omega]at z1
    obtain⟨b',off',e,z2⟩:=Gy 2 Wq;(obtain⟨rfl,rfl⟩:b=b'∧off=off':=by simpa using e);rw[←H2.out]at z2;clear e;by_cases q2:t2=3
  ·(first|(have qq9j:=qq9j;rw[show((t0:Nat):Int)=0 by omega]at z0)|(rw[show((t2:Nat):Int)=3 by omega]at z2));exact Z4r_
  first|(have qq9j:=qq9j;have d1:¬(t0:Int)=0:=by omega)|(have d5:¬(t2:Int)=3:=by omega)
  exact Z4n_
 first|(have qq9j:=qq9j;have d1:¬(i:Int)=1:=by omega)|(have d5:¬(t1:Int)=2:=by omega)
 exact Z4n_):p:=h
theorem Z1y_(h:p:=by
 first|(have qq9q:=qq9q;have HQ:Hid (q=cntL v.list (m-1)):=Lib.hid (by rw[←HC.out,HD.out,if_pos At]))|(skip)
 obtain⟨zb,w2,eP,fO,hZ,Hc⟩:=zg wr #[.int .u8 (x.kind:Int),.int .u64 (x.n:Int),.string (str x.s),.slice hx.A1 x.keys.length hx.c1,.slice hx.A2 x.list.length hx.c2] 78;have iS:=hB.trans (Hc.mono hB.size)
 first
 | have qq9q:=qq9q
   clear bO bC Ty
 | have h1:=bO w2 iS Wq
   have cL:Hid (cntL (v.list.drop (i+1)) (cntV x q)=cntL v.list (m-1)):=Lib.hid (by rw[←HC.out,HD.out,if_neg At]);have bC:=bC Wq;clear bO;unfold vlV at h1;have c0:=hZ.c0;have c1:=hZ.c1;have c2:=hZ.c2;have c3:=hZ.c3;have c4:=hZ.c4
 go_upto_region 5 with fail;rw[←eP,←fO]
 first
 | have qq9q:=qq9q
   clear eP fO
 | clear eP fO k0 k1 k2 k3 k4
   go_wp2_with(with_reducible refine h_A ?_);refine h1.mono ?_;rintro e w3 ⟨rfl,Hh⟩;have ng:=iS.trans (Hh.mono iS.size);clear h1
 go_wp2_with(with_reducible refine h_A ?_)
 first
 | have qq9q:=qq9q
   go_ret;rw[←HQ.out]
   exact⟨rfl,iS⟩
 | exact⟨⟨i+1,cntV x q,by omega,by go_num,rfl,by omega,by omega,cL,ng⟩,by simp[RowKit.intOf];omega⟩):p:=h
theorem Z1z_(h:p:=by
 by_cases h1:x=1
 ·subst h1;first|(have qq9u:=qq9u;go_enter func80,ntmps80)|(go_enter func142,ntmps142)
  go_wp2_with(with_reducible refine h_A ?_);go_ret;exact⟨rfl,rfl⟩
 by_cases h2:x=2
 ·subst h2;first|(have qq9u:=qq9u;go_enter func80,ntmps80)|(go_enter func142,ntmps142)
  go_wp2_with(with_reducible refine h_A ?_);go_ret;exact⟨rfl,rfl⟩
 by_cases h4:x=4
 ·subst h4;first|(have qq9u:=qq9u;go_enter func80,ntmps80)|(go_enter func142,ntmps142)
  go_wp2_with(with_reducible refine h_A ?_);go_ret;exact⟨rfl,rfl⟩
 by_cases h8:x=8
 ·subst h8;first|(have qq9u:=qq9u;go_enter func80,ntmps80)|(go_enter func142,ntmps142)
  go_wp2_with(with_reducible refine h_A ?_);go_ret;exact⟨rfl,rfl⟩
 first
 | have qq9u:=qq9u
   have e:=YB h1 h2 h4 h8;rw[e]
   go_enter func80,ntmps80
 | have b1:(x==1)=false:=by simpa using h1
   (have b2:(x==2)=false:=by simpa using h2);(have b4:(x==4)=false:=by simpa using h4);(have b8:(x==8)=false:=by simpa using h8);rw[YB h1 h2 h4 h8];go_enter func142,ntmps142
 go_wp2_with(with_reducible refine h_A ?_);go_ret
 first|(have qq9u:=qq9u;exact⟨rfl,rfl⟩)|(exact⟨by simp,rfl⟩)):p:=h
theorem Z4e_(h:p:=by
 clear hk hc hd BZ bQ mR Bc;unfold ctlF at f1;unfold mtV at rf;go_wp2_with(with_reducible refine h_A ?_)
 (with_reducible refine rf.mono ?_)
 rintro e rU ⟨rfl,dw⟩;clear rf;go_wp2_with(with_reducible refine h_A ?_);go_end0
 exact⟨rfl,by rw[HR.out];exact LStep.from bL dw⟩):p:=h
theorem Z20_(h:p:=by
 first
 | have qq9w:=qq9w
   have HR:=Lib.hid (show L.ctlM a m er={L.send Zq with st:=5} by unfold LS.ctlM;rw[if_neg zAd,if_neg Wq,if_neg Wq,if_neg Wq,if_pos hk])
   have rf:=Qr m A2 c2 hn Bc Bw hs
 | have qq9v:=qq9v
   have HR:=Lib.hid (show L.ctlM a m er={L.send vX with st:=2} by unfold LS.ctlM;rw[if_neg zAd,if_pos ⟨hk,by omega⟩])
   have rf:=Xy m A2 c2 hn Bc Bw hs
 | have HR:=Lib.hid (show L.ctlM a m er=L.tuned (m.args.getD 0 (ag0 false)).n (m.args.getD 1 (ag0 false)).n by unfold LS.ctlM;rw[if_neg zAd,if_neg Wq,if_pos ⟨hk,by omega⟩])
   (have cN:m.args.length=2:=by rw[bQ HE.out,hc,hd];rfl);have rf:=JT m A2 c2 hn Bc mR cN (m.args.getD 0 (ag0 false)) (m.args.getD 1 (ag0 false)) (by rw[List.getD_eq_getElem?_getD,List.getElem?_eq_getElem Wq];rfl) (by rw[List.getD_eq_getElem?_getD,List.getElem?_eq_getElem Wq];rfl) Bw hs;clear cN
 exact Z4e_):p:=h
theorem Z21_(h:p:=by
 first
 | have qq9x:=qq9x
   have d2:(L.ch:Int)<(f.chan:Int):=by omega
   have HR:=Lib.hid (show L.take ctl f=L.close 501 yp by unfold LS.take;rw[if_pos (.inr q2)])
 | have d1:decide ((L.sz:Int)<(f.load.length:Int)+12)=true:=by simp;omega
   have HR:=Lib.hid (show L.take ctl f=L.close 501 yp by unfold LS.take;rw[if_pos (.inl q1)])
 try simp only[Act.put]
 go_quiet(fail);first|(have qq9x:=qq9x;clear c3 c4 f6 f7 d1 d2)|(clear c3 c4 f6 f7 d1)
 have hx:=(h0.below (za (Below.refl _ _) nq)).mono (Nat.le_succ n);have Ri:=oP.on (za (Below.refl w0.heap.size w0) nq);clear B5 h0 oP ie;have Bc:=jU 501 yp WJ WJ (hx) (Ri) Bw hs;rw[show((501:Nat):Int)=501 from rfl,show str yp=(⟨#[102,114,97,109,101]⟩:ByteArray)from rfl]at Bc;go_wp2_with(with_reducible refine h_A ?_);refine Bc.mono ?_;rintro e w9 ⟨rfl,bV⟩;clear Bc;go_wp2_with(with_reducible refine h_A ?_);refine bodyPost_ret (results_none rfl _ _ _) rfl ?_
 exact⟨rfl,by rw[HR.out];exact LStep.from (za Hy _) bV⟩):p:=h
theorem Z22_(h:p:=by
 skip
 first
 | have qqa9:=qqa9
   have bC:=qS A n c b B w.heap.size O0 0 (W.drewN q) B1 ei So 11 Wq hn;have ck:yF b 11=decide ((b.getD 11 0).toNat≤0):=rfl
   generalize decide ((b.getD 11 0).toNat≤0)=pv at bC ck
 | have qqa8:=qqa8
   have bC:=qS A n c b B w.heap.size PF 0 (W.drewN q) B1 ei Iv 10 Wq hn;have ck:yF b 10=decide ((b.getD 10 0).toNat≤0):=rfl
   generalize decide ((b.getD 10 0).toNat≤0)=pv at bC ck
 | have qqa7:=qqa7
   have bC:=qS A n c b B w.heap.size OU 0 (W.drewN q) B1 ei u9 9 Wq hn;have ck:yF b 9=decide ((b.getD 9 0).toNat≤0):=rfl
   generalize decide ((b.getD 9 0).toNat≤0)=pv at bC ck
 | have qqa6:=qqa6
   have bC:=qS A n c b B w.heap.size Ps 0 (W.drewN q) B1 ei sT 8 Wq hn;have ck:yF b 8=decide ((b.getD 8 0).toNat≤0):=rfl
   generalize decide ((b.getD 8 0).toNat≤0)=pv at bC ck
 | have qqa5:=qqa5
   have bC:=qS A n c b B w.heap.size PM 15 (W.drewN q) B1 ei rD 5 Wq hn;have ck:yF b 5=decide ((b.getD 5 0).toNat≤15):=rfl
   generalize decide ((b.getD 5 0).toNat≤15)=pv at bC ck
 | have qqa4:=qqa4
   have bC:=qS A n c b B w.heap.size PK 0 (W.drewN q) B1 ei sw 4 Wq hn;have ck:yF b 4=decide ((b.getD 4 0).toNat≤0):=rfl
   generalize decide ((b.getD 4 0).toNat≤0)=pv at bC ck
 | have qqa3:=qqa3
   have bC:=qS A n c b B w.heap.size R7 16 (W.drewN q) B1 ei i4 2 Wq hn;have ck:yF b 2=decide ((b.getD 2 0).toNat≤16):=rfl
   generalize decide ((b.getD 2 0).toNat≤16)=pv at bC ck
 | have qqa2:=qqa2
   have bC:=qS A n c b B w.heap.size OB 3 (W.drewN q) B1 ei dK 1 Wq hn;have ck:yF b 1=decide ((b.getD 1 0).toNat≤3):=rfl
   generalize decide ((b.getD 1 0).toNat≤3)=pv at bC ck
 | have qqa1:=qqa1
   have bC:=qS A n c b B w.heap.size Sj 15 (W.drewN q) B1 ei ca 0 Wq hn;have ck:yF b 0=decide ((b.getD 0 0).toNat≤15):=rfl
   generalize decide ((b.getD 0 0).toNat≤15)=pv at bC ck
 | have bC:=zaI A n c b B w.heap.size (W.drewN q) B1 ei Wq hn
   have ck:yF b 3=(decide (12≤frN b)&&decide (frN b≤4096)):=rfl;generalize(decide (12≤frN b)&&decide (frN b≤4096))=pv at bC ck
 cases pv
 ·have BO:=xV mu Wq ck;clear ck;go_wp2_with(with_reducible refine h_A ?_);refine bC.mono ?_;rintro e w' ⟨rfl,q2,rfl⟩;go_wp2_with(with_reducible refine h_A ?_);go_ret;rw[BO];exact⟨rfl,by first|exact za dL _|exact dL|exact za ew _⟩
 have dR:=qf BL ck;clear ck;go_wp2_with(with_reducible refine h_A ?_);refine bC.mono ?_;rintro e w' ⟨rfl,q2,rfl⟩;go_wp2_with(with_reducible refine h_A ?_)
 first
 | have qqa9:=qqa9
   exact⟨⟨11+1,_,by omega,by go_num,dR,by first|rfl|exact World.drewN_drewN _ _ _⟩,by simp[intOf];try omega⟩
 | have qqa8:=qqa8
   exact⟨⟨10+1,_,by omega,by go_num,dR,by first|rfl|exact World.drewN_drewN _ _ _⟩,by simp[intOf];try omega⟩
 | have qqa7:=qqa7
   exact⟨⟨9+1,_,by omega,by go_num,dR,by first|rfl|exact World.drewN_drewN _ _ _⟩,by simp[intOf];try omega⟩
 | have qqa6:=qqa6
   exact⟨⟨8+1,_,by omega,by go_num,dR,by first|rfl|exact World.drewN_drewN _ _ _⟩,by simp[intOf];try omega⟩
 | have qqa5:=qqa5
   exact⟨⟨5+1,_,by omega,by go_num,dR,by first|rfl|exact World.drewN_drewN _ _ _⟩,by simp[intOf];try omega⟩
 | have qqa4:=qqa4
   exact⟨⟨4+1,_,by omega,by go_num,dR,by first|rfl|exact World.drewN_drewN _ _ _⟩,by simp[intOf];try omega⟩
 | have qqa3:=qqa3
   exact⟨⟨2+1,_,by omega,by go_num,dR,by first|rfl|exact World.drewN_drewN _ _ _⟩,by simp[intOf];try omega⟩
 | have qqa2:=qqa2
   exact⟨⟨1+1,_,by omega,by go_num,dR,by first|rfl|exact World.drewN_drewN _ _ _⟩,by simp[intOf];try omega⟩
 | have qqa1:=qqa1
   exact⟨⟨0+1,_,by omega,by go_num,dR,by first|rfl|exact World.drewN_drewN _ _ _⟩,by simp[intOf];try omega⟩
 | exact⟨⟨3+1,_,by omega,by go_num,dR,by first|rfl|exact World.drewN_drewN _ _ _⟩,by simp[intOf];try omega⟩):p:=h
theorem Z23_(h:p:=by
 first
 | have qqaf:=qqaf
   have hg:=yC w lb 4 (.int .u64 v)
   have hk:KeepF (fun k=>k=lb) w (w.setCell ⟨lb,4,none⟩ (.int .u64 v)):=.grown hg (fun g e=>.inl uQ)
 | have qqae:=qqae
   have hg:=yC w lb 0 (.int .u8 v)
   have hk:KeepF (fun k=>k=lb) w (w.setCell ⟨lb,0,none⟩ (.int .u8 v)):=.grown hg (fun g e=>.inl uQ)
 | have hg:=yC w lb 3 (.int .u64 v)
   have hk:KeepF (fun k=>k=lb) w (w.setCell ⟨lb,3,none⟩ (.int .u64 v)):=.grown hg (fun g e=>.inl uQ)
 obtain⟨gp,p,SA,sc,TT,tc,th,F,h1,h2,h3,h4,h5,h6,h7,h8,h9,dX,eS⟩:=h.ex
 exact⟨⟨gp,p,SA,sc,TT,tc,th,F,xW h1 _,h2,zw h3 hk (fun b e=>(h9 b e).2.1),zw h4 hk (fun b e=>(dX b e).2.1),h5,fun x hx=>⟨zw (h6 x hx).1 hk (fun b e e2=>h.ut b ((h6 x hx).2 b e) (e2▸h.lb)),(h6 x hx).2⟩,
  h7.keep (fun k hF=>hk.2.1 k (h7.lt k hF) (fun e=>eS (e▸hF))) hk.1,h8,h9,dX,eS⟩,h.lb,Nat.le_trans h.size hk.1,fun b hb=>⟨(h.uB b hb).1,Nat.lt_of_lt_of_le (h.uB b hb).2 hk.1⟩,fun b hb=>Nat.lt_of_lt_of_le (h.tB b hb) hk.1,h.ut⟩):p:=h
theorem Z24_(h:p:=by
 first
 | have qqal:=qqal
   have N6:=Lib.hid (ib.out.trans (if_neg h4));(have k4:¬((L.st:Nat):Int)=4:=by omega);change wc.cell? ⟨lb,0,none⟩=some (.int .u8 (L.st:Int))at k0;clear ib h4
   have Bc:=jU 501 yp WJ WJ (hM) (M3) Bw hs
 | have qqak:=qqak
   (have h1:¬(er:Int)=0:=by omega);have ib:=Lib.hid (HQ.out.trans (if_neg h0));clear HQ h0 GM
   have Bc:=jU 501 yp WJ WJ (hM) (M3) Bw hs
 | have qqaj:=qqaj
   have OY:=Lib.hid (wH.out.trans (if_neg q2));(have d3:((L.st:Int)!=4)=true:=by simp;omega);clear q2 wH
   have Bc:=yV 501 yp WJ WJ ⟨_,_,_,_,hM⟩ Bw hs
 | have qqai:=qqai
   have wH:=Lib.hid (eU.out.trans (if_neg q1));(have d1:((L.g.err f:Int)!=0)=true:=by simp;omega);clear q1 eU
   have Bc:=yV 501 yp WJ WJ ⟨_,_,_,_,hM⟩ Bw hs
 | have qqah:=qqah
   (have d2:(L.ch:Int)<(f.chan:Int):=by omega);have HR:=Lib.hid (show L.take ctl f=L.close 501 yp by unfold LS.take;rw[if_pos (.inr q2)]);(try simp only[Act.put]);go_quiet(fail);clear c3 c4 f6 f7 d1 d2;have hx:=h0.below (za (Below.refl _ _) nq);clear B5 fm h0 ie
   have Bc:=yV 501 yp WJ WJ ⟨_,_,_,_,hx⟩ Bw hs
 | have d1:decide ((L.sz:Int)<(f.load.length:Int)+12)=true:=by simp;omega
   have HR:=Lib.hid (show L.take ctl f=L.close 501 yp by unfold LS.take;rw[if_pos (.inl q1)]);(try simp only[Act.put]);go_quiet(fail);clear c3 c4 f6 f7 d1;have hx:=h0.below (za (Below.refl _ _) nq);clear B5 fm h0 ie;have Bc:=yV 501 yp WJ WJ ⟨_,_,_,_,hx⟩ Bw hs
 rw[show((501:Nat):Int)=501 from rfl,show str yp=(⟨#[102,114,97,109,101]⟩:ByteArray)from rfl]at Bc;go_wp2_with(with_reducible refine h_A ?_);refine Bc.mono ?_;rintro e w9 ⟨rfl,bV⟩;clear Bc;go_wp2_with(with_reducible refine h_A ?_)
 first
 | have qqal:=qqal
   go_end0
   exact⟨rfl,by rw[N6.out];exact iN bV⟩
 | have qqak:=qqak
   go_end0
   exact⟨rfl,by rw[ib.out];exact iN bV⟩
 | have qqaj:=qqaj
   refine bodyPost_ret (results_none rfl _ _ _) rfl ?_
   exact⟨rfl,l',fB,by rw[OY.out];exact RStep.of hK ww wT bV⟩
 | have qqai:=qqai
   refine bodyPost_ret (results_none rfl _ _ _) rfl ?_
   exact⟨rfl,l',fB,by rw[wH.out];exact RStep.of hK ww wT bV⟩
 | refine bodyPost_ret (results_none rfl _ _ _) rfl ?_
   exact⟨rfl,l,by omega,by rw[HR.out];exact RStep.from (za Hy _) bV⟩):p:=h
theorem Z25_(h:p:=by
 first
 | have qqar:=qqar
   have d1:((a.track:Int)!=0)=true:=by simp;omega
   clear qq q1
 | have qqaq:=qqaq
   have d2:(er !=0)=true:=by simpa using q2
   clear qq q1 q2
 | have qqap:=qqap
   clear qq q1 q2
 | have d3:((s:Int)!=(L.st:Int))=true:=by
    (have:¬s=L.st:=fun e=>qq ⟨q1,q2,rfl,e⟩);simp;omega
   clear qq q1 q2
 try simp only[Act.put]
 go_quiet(fail);first|(have qqar:=qqar;clear d1 c0 q0 x1)|(have qqaq:=qqaq;clear d1 d2 c0 q0 x1)|(have qqap:=qqap;clear d1 d2 c0 q0 x1)|(clear d1 d2 d3 c0 q0 x1)
 have i8:=za (Below.refl w9.heap.size w9) nq;have hn:=h9.below i8;have bL:=za p7 nq;have Bc:=jU 501 yo WJ WJ hn (he.on bL) Bw hs;rw[show((501:Nat):Int)=501 from rfl,show str yo=(⟨#[99,111,110,116,114,111,108]⟩:ByteArray)from rfl]at Bc;go_wp2_with(with_reducible refine h_A ?_)
 (with_reducible refine Bc.mono ?_)
 rintro e rU ⟨rfl,dw⟩;clear Bc;go_wp2_with(with_reducible refine h_A ?_);refine bodyPost_ret (results_none rfl _ _ _) rfl ?_
 exact⟨rfl,by rw[HR.out];exact LStep.from bL dw⟩):p:=h
theorem Z26_(h:p:=by
 first|(have qqav:=qqav;by_cases q1:m.code=7)|(have qqau:=qqau;by_cases q1:m.code=6)|(by_cases q1:m.code=2)
 ·first
  | have qqav:=qqav
    have d1:((m.code:Int)==7)=true:=by simp;omega
    by_cases q2:L.st=3
  | have qqau:=qqau
    have d1:((m.code:Int)==6)=true:=by simp;omega
    by_cases q2:L.st=2
  | have d1:((m.code:Int)==2)=true:=by simp;omega
    by_cases q2:L.st=1
  ·(first|(have qqav:=qqav;have d2:((L.st:Int)==3)=true:=by simp;omega)|(have qqau:=qqau;have d2:((L.st:Int)==2)=true:=by simp;omega)|(have d2:((L.st:Int)==1)=true:=by simp;omega));have l6:Hid (Y=true):=Lib.hid (by rw[hY];simp[q1,q2]);clear hY q1 q2;go_wp2_with fail;go_meet
   case rel=>exact⟨by rw[l6.out],rfl⟩
  first|(have qqav:=qqav;have d2:((L.st:Int)==3)=false:=by simp;omega)|(have qqau:=qqau;have d2:((L.st:Int)==2)=false:=by simp;omega)|(have d2:((L.st:Int)==1)=false:=by simp;omega)
  have l6:Hid (Y=false):=Lib.hid (by rw[hY];simp[q2]);clear hY q1 q2;go_wp2_with fail;go_meet
  case rel=>exact⟨by rw[l6.out],rfl⟩
 first|(have qqav:=qqav;have d1:((m.code:Int)==7)=false:=by simp;omega)|(have qqau:=qqau;have d1:((m.code:Int)==6)=false:=by simp;omega)|(have d1:((m.code:Int)==2)=false:=by simp;omega)
 have l6:Hid (Y=false):=Lib.hid (by rw[hY];simp[q1]);clear hY q1;go_wp2_with fail;go_meet
 case rel=>exact⟨by rw[l6.out],rfl⟩):p:=h
theorem Z27_(h:p:=by
 first
 | have qqaw:=qqaw
   have HN:Hid (qN c k=[]∧(YJ c k).isSome=false):=Lib.hid (by unfold qN YJ;rw[hr];exact⟨rfl,rfl⟩)
 | have HN:Hid (qN c k=xi c++ [46]++r.word∧(YJ c k).isSome=true):=Lib.hid (by unfold qN YJ;rw[hr];exact⟨rfl,rfl⟩)
   have ik:(xi c++ [46]++r.word).length≤30:=(Z8 hr).2.1;simp only[List.length_append,List.length_cons,List.length_nil]at ik
 rw[hr]at hf;unfold zaQ at hf
 first
 | have qqaw:=qqaw
   simp only[Option.isSome_none]at hf
   clear hr
 | simp only[Option.isSome_some]at hf
   have hw:zcf (some r)=r.word:=rfl;rw[hw]at hf;clear hr hw;have BZ:=zi (xi c);have cm:=zi r.word
 go_enter func88,ntmps88;go_wp2_with(with_reducible refine h_A ?_);refine bC.mono ?_;rintro e w1 ⟨rfl,rfl⟩;go_wp2_with(with_reducible refine h_A ?_);refine hf.mono ?_;rintro e w1 ⟨rfl,hB⟩;go_wp2_with(with_reducible refine h_A ?_);go_ret2;rw[HN.out.1,HN.out.2]
 exact⟨rfl,hB⟩):p:=h
theorem Z28_(h:p:=by
 have g2:(n:Int)<2:=by omega
 first|(have qqay:=qqay;go_enter func91,ntmps91)|(go_enter func87,ntmps87)
 go_upto_region 2 with fail;rw[←bD,←bo];clear bD bo;go_wp2_with(with_reducible refine h_B ?_);refine zc (zn (v:=.agg #[.int .u8 0,.int .u8 0,.bool false,.slice none 0 0]) (vs:=[.int .u8 0,.int .u8 0,.bool false,.slice none 0 0]) rfl rfl rfl rfl hz rfl Wj Wz qO #[.int .u8 0,.int .u8 0,.bool false,.slice none 0 0] Wz ?_);intro w1 cy bN _;have Ha:=Hy.grown bN Hy.size Wx;go_wp2_with(with_reducible refine h_A ?_);refine zG rfl cy rfl rfl underlying106 rfl Wj rfl ?_
 exact⟨mt0,none,0,4,rfl,RM.zero _ _,Ha,.inl ⟨by omega,rfl,rfl⟩⟩):p:=h
theorem Z29_(h:p:=by
 have e1:f.put=[]:=by simp[Fr.put,bJ]
 have e2:f.err=60:=by simp[Fr.err,bJ]
 rw[e1,e2];rw[e2]at b7;first|(have qqb1:=qqb1;clear bJ e1 e2)|(clear bJ e1 e2 dl)
 obtain⟨b1,b2,b3,b4,ty,tr,ch,ld⟩:=f;unfold frV at b7 ⊢;simp only at b7;have Hy:Below w.heap.size w (w.alloc (.cells #[.bool b1,.bool b2,.bool b3,.bool b4,.int .u8 (ty:Int),.int .u8 (tr:Int),.int .u16 (ch:Int),.string (str ld)] 97)):=(Below.refl _ _).alloc (Nat.le_refl _) _;first|(have qqb1:=qqb1;go_enter func48,ntmps48)|(go_enter func45,ntmps45)
 exact Z4h_):p:=h
theorem Z2a_(h:p:=by
 first
 | have qqb4:=qqb4
   have HR:=Lib.hid (wO.out.trans (if_neg q1));have d1:((m.code:Int)==11)=false:=by simp;omega
   clear q1
 | have qqb3:=qqb3
   (have d1:((a.track:Int)!=0)=true:=by simp;omega);have HR:Hid (L.ctlM a m er=L.close 501 yo):=Lib.hid (by unfold LS.ctlM;rw[if_pos (.inl q1)])
   clear q1
 | have qqb2:=qqb2
   (have d2:(er !=0)=true:=by simpa using q2);have HR:Hid (L.ctlM a m er=L.close 501 yo):=Lib.hid (by unfold LS.ctlM;rw[if_pos (.inr q2)])
   clear q1 q2
 | have d3:((m.cls:Int)!=1)=true:=by simp;omega
   have HR:Hid (L.ctlM a m er=L.close 501 yo):=Lib.hid (by unfold LS.ctlM ctlK;rw[if_neg (by rw[q1,q2];simp)];simp[q3]);clear q1 q2 q3
 have Bc:=yV 501 yo WJ WJ ⟨_,_,_,_,h0⟩ Bw hs;rw[show((501:Nat):Int)=501 from rfl,show str yo=(⟨#[99,111,110,116,114,111,108]⟩:ByteArray)from rfl]at Bc;clear h0;go_wp2_with(with_reducible refine h_A ?_)
 (with_reducible refine Bc.mono ?_)
 rintro e w9 ⟨rfl,bV⟩;clear Bc;go_wp2_with(with_reducible refine h_A ?_);first|(have qqb4:=qqb4;go_end0)|(refine bodyPost_ret (results_none rfl _ _ _) rfl ?_)
 exact⟨rfl,by rw[HR.out];exact RStep.from hB bV⟩):p:=h
theorem Z2b_(h:p:=by
 first|(have qqb5:=qqb5;(rcases h with⟨rfl,rfl,rfl,rfl⟩|⟨rb,rfl,rfl,rfl,rfl,hc,hF⟩|⟨rb,b,A,n,c,rfl,rfl,hne,hc,h0,h1,h2,_⟩))|((rcases h with⟨rfl,rfl,rfl,rfl⟩|⟨rb,rfl,rfl,rfl,rfl,hc,hF⟩|⟨rb,b,A,n,c,rfl,rfl,hne,hc,h0,h1,h2,_,_,hr,_⟩))
 ·first|(have qqb5:=qqb5;go_enter func77,ntmps77)|(go_enter func78,ntmps78)
  go_wp2_with(with_reducible refine h_A ?_);go_ret;exact⟨rfl,rfl⟩
 ·first|(have qqb5:=qqb5;go_enter func77,ntmps77)|(go_enter func78,ntmps78)
  go_wp2_with(with_reducible refine h_A ?_);first|(have qqb5:=qqb5;refine(Vn w).mono ?_)|(refine(JU w).mono ?_)
  rintro e w' ⟨rfl,rfl⟩;go_wp2_with(with_reducible refine h_A ?_);go_ret;exact⟨rfl,rfl⟩
 first
 | have qqb5:=qqb5
   go_enter func77,ntmps77
 | have hl:=hr.length
   go_enter func78,ntmps78
 go_wp2_with(with_reducible refine h_A ?_);first|(have qqb5:=qqb5;refine(Vo w b bad h1 h2).mono ?_)|(refine(JV w b h0).mono ?_)
 rintro e w' ⟨rfl,rfl⟩;go_wp2_with(with_reducible refine h_A ?_);go_ret;first|done|(have qqb5:=qqb5)|(rw[hl])
 exact⟨rfl,rfl⟩):p:=h
theorem Z2c_(h:p:=by
 subst hk
 first
 | have qqbb:=qqbb
   generalize dr:(((50:Nat):Int))=k at*
   obtain rfl:k=50:=by rw[←dr];rfl
 | have qqba:=qqba
   generalize dr:(((49:Nat):Int))=k at*
   obtain rfl:k=49:=by rw[←dr];rfl
 | have qqb9:=qqb9
   generalize dr:(((2:Nat):Int))=k at*
   obtain rfl:k=2:=by rw[←dr];rfl
 | have qqb8:=qqb8
   generalize dr:(((8:Nat):Int))=k at*
   obtain rfl:k=8:=by rw[←dr];rfl
 | have qqb7:=qqb7
   generalize dr:(((149:Nat):Int))=k at*
   obtain rfl:k=149:=by rw[←dr];rfl
 | generalize dr:(((160:Nat):Int))=k at*
   obtain rfl:k=160:=by rw[←dr];rfl
 clear dr;have c0:=bS.c0;have c1:=bS.c1;have c2:=bS.c2;have c3:=bS.c3;have c4:=bS.c4
 first
 | have qqbb:=qqbb
   have hp:=yP A3 n1 q3 l1 v.n 8 w3 Bv.rd gO Wq;rw[yT WJ]at hp
   rw[show l1++be (Int.toNat 8) v.n=R by rw[eU.out];simp[yu]]at hp
 | have qqba:=qqba
   have hp:=yP A3 n1 q3 l1 v.n 8 w3 Bv.rd gO Wq;rw[yT WJ]at hp
   rw[show l1++be (Int.toNat 8) v.n=R by rw[eU.out];simp[yu]]at hp
 | have qqb9:=qqb9
   have hp:=yP A3 n1 q3 l1 v.n 1 w3 Bv.rd gO Wq;rw[yT WJ]at hp
   rw[show l1++be (Int.toNat 1) v.n=R by rw[eU.out];simp[yu]]at hp
 | have qqb8:=qqb8
   have hp:=yP A3 n1 q3 l1 v.n 1 w3 Bv.rd gO Wq;rw[yT WJ]at hp
   rw[show l1++be (Int.toNat 1) v.n=R by rw[eU.out];simp[yu]]at hp
 | have qqb7:=qqb7
   (have rM:zE v.s.length 2=0:=by simp[zE];omega);have hp:=qB A3 n1 q3 l1 v.s 2 w3 Bv.rd Wq Wq;rw[yQ rM,rM]at hp;rw[show l1++be (Int.toNat 2) v.s.length++v.s=R by rw[eU.out];simp[yu]]at hp
   clear rM
 | have rM:zE v.s.length 4=0:=by simp[zE];omega
   have hp:=qB A3 n1 q3 l1 v.s 4 w3 Bv.rd Wq Wq;rw[yQ rM,rM]at hp;rw[show l1++be (Int.toNat 4) v.s.length++v.s=R by rw[eU.out];simp[yu]]at hp;clear rM
 go_wp2_with(with_reducible refine h_A ?_);refine hp.mono ?_;rintro e w4 ⟨A4,my,rfl,Bq,Hn⟩;clear hp c0 c1 c2 c3 c4;go_wp2_with(with_reducible refine h_A ?_);go_ret
 exact⟨A4,my,rfl,Bq.base_le d9,BQ.on Hn,i6.trans (Hn.mono d9)⟩):p:=h
theorem Z5m_(h:p:=by
 simp only[beq_eq_false_iff_ne];intro e
 exact cy (UInt8.toNat_inj.1 (by show z.toNat=1;omega))):p:=h
theorem Z2d_(h:p:=by
 first
 | have qqbc:=qqbc
   have g7:¬(4:Int)≤(n:Int):=by omega
   have mg:Hid (false=kq x.toNat b):=Lib.hid (by unfold kq;rw[List.getElem?_eq_none Wq];simp)
 | have pM:=mg false (decide_eq_false cy)
   have hzi:((z.toNat:Int)==1)=false:=by
    exact Z5m_
   clear mg cy
 go_wp2_with(with_reducible refine h_B ?_);refine zc (zn (v:=.bool false) (vs:=[.bool false]) rfl rfl rfl rfl np rfl Wj Wz wX #[.int .u8 (x.toNat:Int),.int .u8 (y.toNat:Int),.bool false,.slice none 0 0] Wz ?_);intro w5 gr H9 _;go_wp2_with(with_reducible refine h_A ?_);go_meet
 first|(have qqbc:=qqbc;exact⟨4,false,rfl,lK,mg,gr,fR.grown H9 (sne Wq),Hh.grown H9 Hh.size Wx⟩)|(exact⟨4,false,rfl,lK,pM,gr,fR.grown H9 (sne Wq),Hh.grown H9 Hh.size Wx⟩)):p:=h
theorem Z2e_(h:p:=by
 first|done|(have qqbd:=qqbd)|(refine BigFrame.wpList_want hw fun K hK=>?_)
 obtain⟨i,hi,hz,BZ,dT⟩:=hT.i;obtain⟨v',w',bu,h2,h3,_⟩:=Lib.run_append_own_string (P:=P) (w:=w) base t u o.type e i hT.u hu hi hz BZ dT _ n xs Hl (str l) (by rw[zi];simp only[maxLen];omega) (by rw[zi];omega) Hf;rw[zi]at h2;obtain⟨A2,c2,rfl⟩:=jQ h2;rw[xh]at h3
 have e1:Lib.strCells (str l)=l.map u8v:=by
  unfold Lib.strCells;simp[str,u8v]
 rw[e1]at h2;unfold Oper.wp execOp;simp only[ho,resolve,invoke,builtin,Sem.run_bind,Sem.run_pure,Result.andThen_ok,List.map_toArray,List.map_cons,List.map_nil,hs,hx,bu]
 first|(have qqbd:=qqbd;exact h A2 c2 w' h2 h3)|(exact hK _ _ (h A2 c2 w' h2 h3))):p:=h
theorem Z2f_(h:p:=by
 intro a' rest d7 hl l7 Bo BR;first|(have qqbg:=qqbg;have h2:(decide (errV a'.v=0)&&zy a' (agX2 a'))=true:=l7)|(have h2:(decide (((a'.x.err:Nat):Int)=0)&&zy a' (agX a'))=true:=l7)
 rw[Bool.and_eq_true,decide_eq_true_eq]at h2;obtain⟨h3,h4⟩:=h2;first|(have qqbg:=qqbg;have e2:a'=agX2 a':=(zL _ _).1 h4)|(have e2:a'=agX a':=(zL _ _).1 h4)
 have e3:a'.is=true:=by rw[e2];rfl
 first
 | have qqbg:=qqbg
   have iV:l=vlB a'.v++rest:=by
    rw[hl];(show vlP a'.v++rest=_);rw[vlP,if_pos h3]
   rw[iV,zcD Bo.v h3]at hg
 | have bJ:a'.x.ok=true:=by
    cases hk:a'.x.ok
    ·simp[Xd.err,hk]at h3
    rfl
   have iV:l=a'.x.bytes++rest:=by
    rw[hl];(show a'.x.put++rest=_);rw[Xd.put_ok bJ]
   rw[iV,Yj Bo.x bJ]at hg
 injection hg with g1 g2
 injection g2 with g2 g3
 subst g1 g2 g3 d7;refine⟨?_,?_,rfl⟩
 ·rw[e2];first|(have qqbg:=qqbg;simp only[agX2])|(simp only[agX])
  rw[←BR,e3]
 rw[if_neg Wz,iV,List.drop_left]):p:=h
theorem Z2g_(h:p:=by
 first
 | have qqbi:=qqbi
   have HR:=Lib.hid (wO.out.trans (show L.tuned x y=L.close 501 qi by unfold LS.tuned;rw[if_pos (.inr (.inl q2))]))
   have d2:(y:Int)<256:=by omega
 | have qqbh:=qqbh
   have HR:=Lib.hid (wO.out.trans (show L.tuned x y=L.close 501 qi by unfold LS.tuned;rw[if_pos (.inl q1)]))
   have d1:(255:Int)<(x:Int):=by omega
 | have HR:=Lib.hid (wO.out.trans (show L.tuned x y=L.close 501 qi by unfold LS.tuned;rw[if_pos (.inr (.inr q3))]))
   have d3:(4096:Int)<(y:Int):=by omega
 have Bc:=yV 501 qi WJ WJ ⟨_,_,_,_,h0⟩ Bw hs;rw[show((501:Nat):Int)=501 from rfl,show str qi=(⟨#[116,117,110,101]⟩:ByteArray)from rfl]at Bc;clear h0;go_wp2_with(with_reducible refine h_A ?_)
 (with_reducible refine Bc.mono ?_)
 rintro e w9 ⟨rfl,bV⟩;clear Bc;go_wp2_with(with_reducible refine h_A ?_);refine bodyPost_ret (results_none rfl _ _ _) rfl ?_
 exact⟨rfl,by rw[HR.out];exact RStep.from hB bV⟩):p:=h
theorem Z2h_(h:p:=by
 have e1:xa (M:Int) a=70:=by simp[xa,c1,c2,bJ]
 have e2:cutF (M:Int) a=[]:=by simp[cutF,e1]
 have e3:xQ a=70:=by simp[xQ,bJ]
 rw[e1,e2];rw[e3]at b7;clear e1 e2 e3 bJ;unfold asV at*
 first
 | have qqbm:=qqbm
   go_enter func47,ntmps47
   go_upto_region 1 with fail
 | go_enter func44,ntmps44
   go_wp2_with(with_reducible refine h_A ?_)
 rw[←bD,←bo];first|done|(have qqbm:=qqbm)|(go_step3)
 clear bD bo
 first
 | done
 | have qqbm:=qqbm
 | have x0:=hX.c0
   have x1:=hX.c1;have x2:=hX.c2
 go_wp2_with(with_reducible refine h_A ?_);refine(b7 _ Hy).mono ?_;rintro e w1 ⟨rfl,Ha⟩;have Hc:=Hy.trans (Ha.mono Hy.size);go_wp2_with(with_reducible refine h_A ?_);first|done|(have qqbm:=qqbm)|(rw[Exit.noGoto_ret])
 go_ret2
 exact⟨none,0,rfl,Own.none_ _ _ _ _,Hc⟩):p:=h
theorem Z2i_(h:p:=by
 first
 | have qqbo:=qqbo
   have HR:=Lib.hid (show L.tuned x y=L.close 501 qi by unfold LS.tuned;rw[if_pos (.inr (.inl q2))])
   have d2:(y:Int)<256:=by omega
 | have qqbn:=qqbn
   have HR:=Lib.hid (show L.tuned x y=L.close 501 qi by unfold LS.tuned;rw[if_pos (.inl q1)])
   have d1:(255:Int)<(x:Int):=by omega
 | have HR:=Lib.hid (T5.out.trans (show L.opened s=L.close 402 kL by unfold LS.opened;rw[if_pos (of_decide_eq_true HY.out.symm)]))
   have Bc:=yV 402 kL WJ WJ ⟨_,_,_,_,h0⟩ Bw hs;rw[show((402:Nat):Int)=402 from rfl,show str kL=(⟨#[111,112,101,110]⟩:ByteArray)from rfl]at Bc;clear h0
 go_wp2_with(with_reducible refine h_A ?_)
 (with_reducible refine Bc.mono ?_)
 rintro e w9 ⟨rfl,bV⟩;clear Bc;go_wp2_with(with_reducible refine h_A ?_);refine bodyPost_ret (results_none rfl _ _ _) rfl ?_
 first|(have qqbo:=qqbo;exact⟨rfl,by rw[HR.out];exact LStep.from Ha bV⟩)|(have qqbn:=qqbn;exact⟨rfl,by rw[HR.out];exact LStep.from Ha bV⟩)|(exact⟨rfl,by rw[HR.out];exact RStep.from hB bV⟩)):p:=h
theorem Z2j_(h:p:=by
 obtain⟨gp,p,SA,sc,TT,tc,th,F,h1,h2,h3,h4,h5,h6,h7,h8,h9,dX,eS⟩:=h.ex;first|(have qqbq:=qqbq;refine(zaL code text oF oZ lb L.sz B L.sent.length sc _ p SA L.sent w he h1 rfl rfl Bw rfl h2 rfl h3 (fun e=>(h9 lb e).2.1 rfl) h.size hs).mono ?_)|(refine(Zr code S bs B5 iT lb L.sz B L.sent.length sc _ p SA L.sent A m c w he hr h1 rfl rfl Bw rfl h2 rfl h3 (fun e=>(h9 lb e).2.1 rfl) h.size hs).mono ?_)
 rintro e w' ⟨rfl,hW⟩;refine⟨rfl,h.wrote rfl rfl rfl rfl fun cs q SB sd k1 k2 k3 k4 k5 k6 k7 k8 k9=>?_⟩;have e1:=k1;unfold Box at e1 h1;rw[h1]at e1;injection e1 with e1
 injection e1 with e1 _ _
 subst e1;injection k6 with k6
 injection k6 with e2 _ _
 subst e2
 exact⟨hW.ex,hW.keep⟩):p:=h
theorem Z2k_(h:p:=by
 first
 | have qqbt:=qqbt
   rw[if_pos (.inr (.inr (.inl Dy)))]
 | have qqbs:=qqbs
   rw[if_pos (.inr (.inl sj))]
 | have qqbr:=qqbr
   subst hb
   rw[if_pos (.inl rfl)]
 | rw[if_pos (.inr (.inr (.inr DB)))]
 go_enter func157,ntmps157;go_wp2_with(with_reducible refine h_A ?_);refine hN.mono ?_;rintro e w1 ⟨rfl,h1,bN⟩;first|done|(have qqbt:=qqbt)|(have qqbs:=qqbs)|(have qqbr:=qqbr)|(have fB:=h1.len)
 go_wp2_with(with_reducible refine h_A ?_);refine(yD h1).mono ?_
 first
 | done
 | have qqbt:=qqbt
 | have qqbs:=qqbs
 | have qqbr:=qqbr
 | rintro e w2 ⟨rfl,rfl⟩
   go_wp2_with(with_reducible refine h_A ?_);refine(yN h1).mono ?_
 rintro e w2 ⟨rfl,rfl⟩;go_wp2_with(with_reducible refine h_A ?_);refine(xk h1).mono ?_;rintro e w3 ⟨rfl,h3,H6⟩;go_wp2_with(with_reducible refine h_A ?_);go_ret
 exact⟨rfl,h3,bN.trans H6⟩):p:=h
theorem Z2l_(h:p:=by
 rw[hk]at hx f1 f2 f3 f4 f5 f6 ⊢;have a1:=List.length_eq_zero_iff.1 (f1 WJ);have a2:=List.length_eq_zero_iff.1 (f2 WJ WJ);have a3:=List.length_eq_zero_iff.1 (f3 WJ WJ)
 first
 | have qqbw:=qqbw
   have e:=qX 1 (.inl rfl) x.n (by have:=f5 rfl;omega) rest;rw[show((1:Nat):Int)=1 from rfl]at e
   rw[if_neg WJ,if_pos (.inr rfl),show yu 2 x.n x.s (innB x)=be 1 x.n by simp[yu],e]
 | have qqbv:=qqbv
   have e:=qX 1 (.inl rfl) x.n (by have:=f4 rfl;omega) rest;rw[show((1:Nat):Int)=1 from rfl]at e
   rw[if_neg WJ,if_pos (.inl rfl),show yu 8 x.n x.s (innB x)=be 1 x.n by simp[yu],e]
 | have qqbu:=qqbu
   have e:=qX 8 (.inr (.inr (.inr rfl))) x.n Wq rest;rw[show((8:Nat):Int)=8 from rfl]at e
   rw[if_neg WJ,if_neg WJ,if_pos (.inl rfl),show yu 50 x.n x.s (innB x)=be 8 x.n by simp[yu],e]
 | have e:=qX 8 (.inr (.inr (.inr rfl))) x.n Wq rest
   rw[show((8:Nat):Int)=8 from rfl]at e;rw[if_neg WJ,if_neg WJ,if_pos (.inr rfl),show yu 49 x.n x.s (innB x)=be 8 x.n by simp[yu],e]
 simp only[Bool.false_eq_true,if_false];rw[a1,a2,a3]at hx
 rw[pC a2,←hx]):p:=h
theorem Z2m_(h:p:=by
 first
 | have qqby:=qqby
   have d1:¬(xc:Int)=(ch:Int):=by omega
   have d2:((xc:Int)==(ch:Int))=false:=by simp;omega
 | subst e1
   (have d1:¬(xt:Int)=(tr:Int):=by omega);have d2:((xt:Int)==(tr:Int))=false:=by simp;omega
 clear rE d0;go_upto_region 5 with fail;try simp only[Act.put]
 go_quiet(fail);have dL:=za hB nq;clear k0 k1 k2 k3 k4 k5 k6 k7 g0;go_wp2_with(with_reducible refine h_A ?_)
 exact⟨⟨k+1,m,c2,A2,by omega,by go_num,rfl,by omega,by rw[HF.out];exact hO.drewN nq,hG.below (za (Below.refl _ _) nq),hX.below (za (Below.refl _ _) nq),NB,dL⟩,by simp[RowKit.intOf];omega⟩):p:=h
theorem Z2n_(h:p:=by
 cases l with
 | nil=>exact absurd rfl hne
 | cons f r=>
  first|(have qqc4:=qqc4;have hb:=h f rfl)|(have hb:=h.first f rfl)
  have h1:zY (f::r)=r.foldl xE (xE [] f):=rfl
  have hl:∀(r:List Fr) (s:List Sg),s≠ []→r.foldl xE s≠ []:=by
   intro r
   induction r with
   | nil=>intro s h;exact h
   | cons g r ih=>
    intro s hs;(refine ih _ fun e=>hs ?_);have:=congrArg List.length e;rw[xE,jP]at this;split at this
    ·simp at this
    simpa using this
  rw[h1];refine hl r _ ?_
  simp[xE,hb,vW]):p:=h
theorem Z2o_(h:p:=by
 first|(have qqc6:=qqc6;clear hb)|(have ge:(e !=0)=true:=by simpa using hb)
 go_enter func160,ntmps160;go_wp2_with(with_reducible refine h_B ?_);refine zc (zn (v:=.bool true) (vs:=[.bool true]) rfl rfl rfl rfl dh rfl Wj Wz wX #[.slice A n c,.bool true] Wz ?_);intro w2 bF Hm _;have c1:=bF.c1;go_wp2_with(with_reducible refine h_A ?_);go_end0
 exact⟨rfl,⟨A,n,c,bF,hr.grown Hm Wq Wx,hn⟩,Hm⟩):p:=h
theorem Z2p_(h:p:=by
 first
 | have qqc7:=qqc7
   unfold Own World.ownsRow at h ⊢
   obtain⟨hl,h1⟩:=h
 | have hF:∀g,FB base A wr g→FB base A wr' g:=fun g hg=>⟨hg.1,Nat.lt_of_lt_of_le hg.2.1 hs,hg.2.2⟩
   refine⟨?_,fun p hp=>((h.el p hp).keep (fun g hg=>hk g hg.1 hg.2.1) hs).mono hF⟩;have ho:=h.own;unfold Own World.ownsRow at ho ⊢;obtain⟨hl,h1⟩:=ho
 refine⟨hl,h1.imp id ?_⟩;rintro⟨g,cap,cur,hv,hb,hh,hr⟩
 exact⟨g,cap,cur,hv,hb,(hk g hb (Array.getElem?_eq_some_iff.1 hh).1).trans hh,hr⟩):p:=h
theorem Z2q_(h:p:=by
 first|(have qqcb:=qqcb;have cL:Hid (v.list.any (xK m)=true):=Lib.hid Nq)|(have cL:Hid ((v.list.drop (i+1)).any (xK m)=v.list.any (xK m)):=Lib.hid Nq)
 rw[hp]at h1;clear hp;go_wp2_with(with_reducible refine h_A ?_);refine h1.mono ?_;rintro e w3 ⟨rfl,Hh⟩;have ng:=hB.trans (Hh.mono hB.size);clear h1 k0 k1 k2 k3 k4 c4;go_wp2_with(with_reducible refine h_A ?_)
 first
 | have qqcb:=qqcb
   go_ret;rw[cL.out]
   exact⟨rfl,ng⟩
 | exact⟨⟨i+1,by omega,by go_num,cL,hX.below Hh,ng⟩,by simp[RowKit.intOf];omega⟩):p:=h
theorem Z6f_(h:p:=by
 go_wp2_with(with_reducible refine h_A ?_);go_ret;rw[HF.out]
 exact⟨rfl,hB⟩):p:=h
theorem Z4s_(h:p:=by
 go_upto_region 1 with fail;rw[←Hg,←Hi,BU,←dF];clear Hg Hi BU dF
 exact Z6f_):p:=h
theorem Z2r_(h:p:=by
 first
 | have qqcg:=qqcg
   (have g1:((v.kind:Int)==(u.kind:Int))=false:=by simp;omega);clear Gj;clear mI bV ih;have HF:Hid (yJ v u=false):=Lib.hid (by rw[qp];simp[hk]);clear hk
   go_enter func126,ntmps126
 | have qqcf:=qqcf
   (have g1:((v.kind:Int)!=(u.kind:Int))=true:=by simp;omega);clear ih lA wV ff p9 BE dl;have HF:Hid (yJ v u=false):=Lib.hid (by rw[qp];simp[hk]);clear hk
   go_enter func93,ntmps93
 | have qqce:=qqce
   (have g2:((v.n:Int)==(u.n:Int))=false:=by simp;omega);clear Gj hk;clear mI bV ih;have HF:Hid (yJ v u=false):=Lib.hid (by rw[qp];simp[hn]);clear hn
   go_enter func126,ntmps126
 | have qqcd:=qqcd
   (have g2:((v.n:Int)!=(u.n:Int))=true:=by simp;omega);clear ih lA wV ff p9 BE dl;have HF:Hid (yJ v u=false):=Lib.hid (by rw[qp];simp[hn]);clear hk hn
   go_enter func93,ntmps93
 | have qqcc:=qqcc
   (have g5:((v.list.length:Int)!=(u.list.length:Int))=true:=by simp;omega);clear ih lA wV ff p9 BE dl;have HF:Hid (yJ v u=false):=Lib.hid (by rw[qp];rw[ZE fB];simp);clear hk hn hs iL fB
   go_enter func93,ntmps93
 | have g4:((v.keys.length:Int)!=(u.keys.length:Int))=true:=by simp;omega
   clear ih lA wV ff p9 BE dl;have HF:Hid (yJ v u=false):=Lib.hid (by rw[qp];have:v.keys≠u.keys:=fun e=>iL (by rw[e]);simp[this]);clear hk hn hs iL;go_enter func93,ntmps93
 exact Z4s_):p:=h
theorem Z2s_(h:p:=by
 first|(have qqch:=qqch;have HF:Hid (xu v.list u.list=false):=Lib.hid Nz)|(have cL:Hid (xu (v.list.drop (i+1)) (u.list.drop (i+1))=xu v.list u.list):=Lib.hid Nz)
 rw[hs]at h1;clear hs;go_wp2_with(with_reducible refine h_A ?_);refine h1.mono ?_;rintro e w3 ⟨rfl,Hh⟩;clear h1 c0 c1 c2 c3 c4 d0 d1 d2 d3 d4;go_wp2_with(with_reducible refine h_A ?_)
 first
 | have qqch:=qqch
   go_ret;rw[HF.out]
   exact⟨rfl,ng.trans (Hh.mono ng.size)⟩
 | exact⟨⟨i+1,by omega,by go_num,ng.trans (Hh.mono ng.size),cL⟩,by simp[RowKit.intOf];omega⟩):p:=h
theorem Z53_(h:p:=by
 rintro e w1 ⟨rfl,h1,bN⟩;go_wp2_with(with_reducible refine h_A ?_);go_ret
 exact⟨none,0,rfl,Own.none_ _ _ _ _,h1,bN⟩):p:=h
theorem Z2t_(h:p:=by
 first
 | have qqcj:=qqcj
   rw[je (.inr (.inl sj))]
 | have qqci:=qqci
   subst d7
   rw[je (.inl rfl)]
 | rw[je (.inr (.inr bQ))]
 go_enter func53,ntmps53;go_wp2_with(with_reducible refine h_A ?_);refine(yD h).mono ?_
 first
 | done
 | have qqcj:=qqcj
 | have qqci:=qqci
 | rintro e w' ⟨rfl,rfl⟩
   go_wp2_with(with_reducible refine h_A ?_);refine(yN h).mono ?_
 rintro e w' ⟨rfl,rfl⟩;go_wp2_with(with_reducible refine h_A ?_);refine(xk h).mono ?_
 exact Z53_):p:=h
theorem Z4i_(h:p:=by
 clear cN o9 pa r6 bO hd hn;go_wp2_with(with_reducible refine h_A ?_);refine gR.mono ?_;rintro e w5 ⟨rfl,rfl⟩;go_wp2_with(with_reducible refine h_A ?_);rw[cI.out]
 exact⟨rfl,rfl,eQ⟩):p:=h
theorem Z2u_(h:p:=by
 first
 | have qqcr:=qqcr
   have cI:Hid (r=none):=Lib.hid (by rw[HR.out,if_pos (.inl rfl)])
   have gR:=xS cQ mp true (.inr rfl)
 | have cI:Hid (r=none):=Lib.hid (by rw[HR.out,if_pos (.inr (.inr Sq))])
   have BO:decide ((CN:Int)<200)=false∨b3=true:=.inl (decide_eq_false Wq);clear Bw Sq HR ib;have gR:=xS cQ mp _ BO
 exact Z4i_):p:=h
theorem Z2v_(h:p:=by
 first
 | have qqcs:=qqcs
   subst h0
 | have h6:((M.st:Nat):Int)=5:=by omega
   rw[h6]at c0;clear h6
 go_wp2_with(with_reducible refine h_B ?_);go_end0;first|(have qqcs:=qqcs;have m7:L.frames ctl FS 0=M:=by unfold LS.frames;rw[HG.out,if_neg (fun e=>e.1 rfl)])|(have m7:L.frames ctl FS er=M:=by unfold LS.frames;rw[HG.out,if_neg (fun e=>e.2 h5)])
 exact⟨rfl,RA',by rw[m7];exact LStep.of dS (fun _ e=>.inl e) (fun _ e=>.inl e) iU,Rd.more (qH iM hk' (Nat.le_refl _) Ff) hk'.1,(by first|exact dG|simpa using dG)⟩):p:=h
theorem Z2w_(h:p:=by
 have g3:decide (v.s=u.s)=false:=by simpa using hs
 first
 | have qqct:=qqct
   rw[g3]at bV
   clear g3 mI Gj ih hk hn
 | rw[g3]at bV dw
   simp only[Bool.not_false]at bV
 have HF:Hid (yJ v u=false):=Lib.hid (by rw[qp];simp[hs])
 first
 | have qqct:=qqct
   clear hs
   go_enter func126,ntmps126
 | clear g3 ih lA wV ff p9 hs hk hn BE dl
   go_enter func93,ntmps93
 exact Z4s_):p:=h
theorem Z2x_(h:p:=by
 first
 | have qqcw:=qqcw
   rw[if_pos rfl]
 | have qqcv:=qqcv
   rw[if_neg Wz]
 | rw[if_neg Wz]
   clear g1;(have k1:((ty:Int)==(tr:Int))=decide (ty=tr):=by rw[Bool.eq_iff_iff];simp;omega);have k2:((tr:Int)==1)=decide (tr=1):=by rw[Bool.eq_iff_iff];simp;omega
 go_enter func82,ntmps82;go_wp2_with(with_reducible refine h_A ?_)
 all_goals
  go_ret
  exact⟨by simp_all,((Below.refl _ _).alloc (Nat.le_refl _) _).alloc Wz _⟩):p:=h
theorem Z2y_(h:p:=by
 first
 | have qqd0:=qqd0
   rw[dq]at pe;have HF:=Lib.hid (ve N8.out (qz dq))
   clear dq
 | have DR:(R:Int)<12:=by omega
   have HF:=Lib.hid (ve N8.out (xd dq gc));clear dq gc
 go_wp2_with(with_reducible refine h_A ?_);refine pe.mono ?_;rintro e w1 ⟨rfl,Ha⟩;have Hc:=bP.trans (Ha.mono hz);have bW:=zh ho Ha;go_wp2_with(with_reducible refine h_A ?_);go_ret3;rw[HF.out];simp only[List.append_nil,Nat.add_zero];rw[lc.out]
 exact⟨A2,c2,rfl,bW,Hc⟩):p:=h
theorem Z4q_(h:p:=by
 go_upto_region 9 with fail;try simp only[Act.put]
 go_quiet(fail);go_wp2_with(with_reducible refine h_B ?_);go_ret
 exact⟨by rw[HV.out];rfl,za bP _⟩):p:=h
theorem Z2z_(h:p:=by
 first|(have qqd2:=qqd2;have d3:(1:Int)<(tr:Int):=by omega)|(have d2:((t0:Int)!=(tr:Int))=true:=by simp;omega)
 have HV:Hid (xQ ⟨ch,tr,l⟩=70):=Lib.hid (by
  have:jN ⟨ch,tr,l⟩=false:=by rw[HH.out];simp;omega
  simp[xQ,asOk,this])
 first|done|(have qqd2:=qqd2)|(clear c1)
 exact Z4q_):p:=h
theorem Z30_(h:p:=by
 have g2:decide (a=b2)=false:=by simpa using eu
 rw[g2]at Bo Bx
 first
 | have qqd6:=qqd6
   have HF:Hid (decide (K=K')=false):=Lib.hid (decide_eq_false fun e=>eu (HX.out e))
   clear g2 eu
 | have HF:Hid (decide (v.keys=u.keys)=false):=Lib.hid (decide_eq_false fun e=>eu (HX.out e))
   clear g2 eu BE dl
 simp only[Bool.not_false]at Bx;go_wp2_with(with_reducible refine h_A ?_);go_quiet(fail);go_wp2_with(with_reducible refine h_A ?_);go_ret;rw[HF.out]
 first|(have qqd6:=qqd6;exact⟨rfl,za hB _⟩)|(exact⟨rfl,za Hh _⟩)):p:=h
theorem Z31_(h:p:=by
 have g1:¬(i:Int)<(n:Int):=by omega
 have HE:Hid (FS=D):=Lib.hid (by rw[HC.out,List.drop_eq_nil_of_le Nx];simp[cutL]);have wY:=HD.out;rw[←HE.out]at hO wY;have lc:=Lib.hid wY;clear wY HD HC BE;go_wp2_with(with_reducible refine h_A ?_);go_ret2;rw[lc.out]
 first|(have qqd8:=qqd8;exact⟨A2,c2,rfl,hO.base_le Wq,bP⟩)|(exact⟨A2,c2,rfl,Own.base_le hO Wq,bP⟩)):p:=h
theorem Z32_(h:p:=by
 first|(have qqdc:=qqdc;have e1:xa most a=2:=by simp[xa,c2])|(have qqdb:=qqdb;have e1:xa most a=2:=by simp[xa,c1])|(have qqda:=qqda;have e1:xa most a=2:=by simp[xa,c2])|(have e1:xa most a=2:=by simp[xa,c1])
 have e2:cutF most a=[]:=by simp[cutF,e1]
 rw[e1,e2];clear e1 e2 b7 hX;unfold asV at*
 first
 | have qqdc:=qqdc
   go_enter func47,ntmps47
 | have qqdb:=qqdb
   go_enter func47,ntmps47
 | go_enter func44,ntmps44
   go_wp2_with(with_reducible refine h_A ?_);go_step3
 go_wp2_with(with_reducible refine h_A ?_);first|done|(have qqdc:=qqdc)|(have qqdb:=qqdb)|(rw[Exit.noGoto_ret])
 go_ret2
 exact⟨none,0,rfl,Own.none_ _ _ _ _,by rw[←bo];exact Hy⟩):p:=h
theorem Z33_(h:p:=by
 first
 | have qqdg:=qqdg
   (have g1:(a.is==b.is)=false:=by simpa using h1);have HF:Hid (zy a b=false):=Lib.hid (by rw[HS.out];simp[h1])
   clear h1 HS cM wv su mU
 | have qqdf:=qqdf
   (have g2:((a.n:Int)==(b.n:Int))=false:=by simp;omega);have HF:Hid (zy a b=false):=Lib.hid (by rw[HS.out];simp[h2])
   clear h1 h2 HS cM wv su mU
 | have qqde:=qqde
   simp only[decide_eq_false h4]at su;have HF:Hid (zy a b=false):=Lib.hid (by rw[HS.out];simp[h4])
   clear h1 h2 h3 h4 HS cM wv
 | rw[decide_eq_false h3]at bV dw
   simp only[Bool.not_false]at dw;have HF:Hid (zy a b=false):=Lib.hid (by rw[HS.out];simp[h3]);clear h1 h2 h3 HS cM wv su mU
 go_enter func106,ntmps106
 exact Z4s_):p:=h
theorem Z34_(h:p:=by
 first
 | have qqdk:=qqdk
   have d1:¬(tr:Int)=1:=by omega
 | have qqdj:=qqdj
   have d6:¬(t1:Int)=3:=by omega
 | have qqdi:=qqdi
   subst b0
 | have qqdh:=qqdh
   have d3:(3:Int)<(i:Int):=by omega
   have d4:¬(i:Int)<1:=by omega
 | have d5:¬(t0:Int)=1:=by omega
   (have d3:¬(3:Int)<(i:Int):=by omega);(have d4:¬(i:Int)<1:=by omega);have d6:(0:Int)<(i:Int):=by omega
 exact Z4n_):p:=h
theorem Z35_(h:p:=by
 refine BigFrame.wpList_want hw fun K hK=>?_
 first|(have qqdl:=qqdl;obtain⟨w',bu,h2,h3⟩:=X6 hT o.type Hl hr h1 fG Hf)|(obtain⟨A2,c2,w',bu,h2,h3,h4⟩:=Kx hT o.type Hl hr h1 Bw Dq Hf)
 unfold Oper.wp execOp;simp only[ho,resolve,invoke,builtin,Sem.run_bind,Sem.run_pure,Result.andThen_ok,List.map_toArray,List.map_cons,List.map_nil,hs,hx,bu]
 first|(have qqdl:=qqdl;exact hK _ _ (h w' h2 h3))|(exact hK _ _ (h A2 c2 w' h2 h3 h4))):p:=h
theorem Z6e_(h:p:=by
 go_wp2_with(with_reducible refine h_A ?_);go_ret;rw[←HQ.out]
 exact⟨rfl,hB⟩):p:=h
theorem Z36_(h:p:=by
 first|(have qqdm:=qqdm;have hi:=za1 p bx v h w hv bC)|(have hi:=zcj p bx v h w hv bC)
 generalize v.list.any p=r at*;clear bC;go_enter func171,ntmps171;go_wp2_with(with_reducible refine h_A ?_);refine hi.mono ?_;rintro e w' ⟨⟨q,rfl,hq⟩,hB⟩;have HQ:=Lib.hid hq;clear hq
 exact Z6e_):p:=h
theorem Z37_(h:p:=by
 intro wS He;have k:=He.2;have q0:=k.cell (j:=0) rfl;have q1:=k.cell (j:=1) rfl;have q2:=k.cell (j:=2) rfl;have q3:=k.cell (j:=3) rfl;have q4:=k.cell (j:=4) rfl;have q5:=k.cell (j:=5) rfl;have q6:=k.cell (j:=6) rfl;have q7:=k.cell (j:=7) rfl;go_simp;(with_reducible rfl)):p:=h
theorem Z38_(h:p:=by
 first
 | have qqdp:=qqdp
   (have d1:decide ((12:Int)≤256*(x:Int)+(y:Int))=false:=by simp;omega);have HV:=hW false (by simp[h1])
   clear h1 hW
 | have qqdo:=qqdo
   (have d2:256*(x:Int)+(y:Int)≤4096:=by omega);have HV:=hW true (by simp[h1,h2])
   clear h1 h2 hW
 | have d2:decide (256*(x:Int)+(y:Int)≤4096)=false:=by simp;omega
   have HV:=hW false (by simp[h1,h2]);clear h1 h2 hW
 go_enter func75,ntmps75;go_wp2_with(with_reducible refine h_A ?_);go_quiet(fail);go_wp2_with(with_reducible refine h_A ?_);go_ret;rw[HV.out]
 exact⟨rfl,_,rfl⟩):p:=h
theorem Z39_(h:p:=by
 obtain⟨U',T',h1,h2,h3,h4⟩:=h;have hz:=hk.1;refine⟨U',T',h1,hk.trans h2 hU,fun k hk'=>?_,fun k hk'=>?_⟩
 ·rcases h3 k hk' with e|e
  ·exact hU k e
  exact .inr Wq
 rcases h4 k hk' with e|e|e
 ·exact hT k e
 ·exact .inr (hU k e)
 exact .inr (.inr Wq)):p:=h
theorem Z3a_(h:p:=by
 rw[hu]at eg;have HF:Hid (xC K zJ=false):=Lib.hid (mA.out (by rw[lH.out,hu]));clear hu;go_wp2_with(with_reducible refine h_A ?_);refine eg.mono ?_;first|(have qqds:=qqds;(rintro e w2 ⟨rfl,rfl⟩))|((rintro e w2 ⟨rfl,Hc⟩))
 clear eg y0;go_wp2_with(with_reducible refine h_A ?_);go_ret;rw[HF.out]
 first|(have qqds:=qqds;exact⟨rfl,hB⟩)|(exact⟨rfl,hB.trans (Hc.mono hB.size)⟩)):p:=h
theorem Z3b_(h:p:=by
 first
 | have qqdz:=qqdz
   rw[je (.inr (.inl sj))]
 | have qqdy:=qqdy
   subst d7
   rw[je (.inl rfl)]
 | have Tf:(n:Int)<x:=by omega
   rw[je (.inr (.inr bQ))]
 go_enter func164,ntmps164;go_wp2_with(with_reducible refine h_A ?_);refine(xO h').mono ?_
 exact Z53_):p:=h
theorem Z67_(h:p:=by
 exact Z6f_):p:=h
theorem Z3c_(h:p:=by
 have HF:Hid (xC K zJ=false):=Lib.hid (mA.out (by rw[ta.out,decide_eq_false (by omega:¬a.length≤255)];simp));have g2:(255:Int)<(a.length:Int):=by omega
 first|(have qqe4:=qqe4;clear eg)|(clear Gi eg)
 exact Z67_):p:=h
theorem Z3d_(h:p:=by
 have HF:Hid (xC K zJ=false):=Lib.hid (mA.out (by rw[ta.out,decide_eq_false (by omega:¬1≤a.length)];rfl))
 first
 | have qqe8:=qqe8
   rw[decide_eq_true Gi]at fP
   clear Gi eg
 | have g2:(a.length:Int)<1:=by omega
   clear eg
 exact Z67_):p:=h
theorem Z3e_(h:p:=by
 have hg:¬yI m=true:=by
  unfold yI;rw[Bool.and_eq_true];rintro⟨_,ha⟩;have:=List.all_eq_true.1 ha i (List.mem_range.2 hi);rw[BO]at this
  cases this
 first|done|(have qqeb:=qqeb)|(rw[eK,hE])
 unfold putM errM;rw[if_neg hg,if_neg hg]
 exact⟨rfl,rfl⟩):p:=h
theorem Z3f_(h:p:=by
 first|done|(have qqeh:=qqeh)|(have qqeg:=qqeg;subst h)|(have h:=zbO h)
 simp[Op.eqFields,part,run_equalIn_int _ 9998 71 .u32 .u32 _ _ underlying71,run_equalIn_string _ 9998 9 _ _ underlying9,h,Result.andThen,typeInfo,sizeOf]
 first
 | done
 | have qqeh:=qqeh
   omega
 | have qqeg:=qqeg
 | have qqef:=qqef
   rw[zl,zl]at h
   simpa using h
 | rw[zl,zl]at h
   intro q
   simp[q]at h):p:=h
theorem Z3g_(h:p:=by
 first
 | have qqej:=qqej
   rw[show((t1:Nat):Int)=2 by omega]at z1
 | have qqei:=qqei
   subst b1
 | rw[show((t1:Nat):Int)=3 by omega]at z1
   clear d5
 exact Z4r_):p:=h
theorem Z3h_(h:p:=by
 first|done|(have qqek:=qqek)|(rw[jw]at hg)
 have h1:=pN g hg;refine⟨⟨h1.1.1,Nat.lt_of_lt_of_le h1.1.2 Br.1⟩,fun e=>?_,fun e=>e,h1.2.2.2⟩;rcases e with e|e|e
 ·exact h1.2.1 e
 ·exact h1.2.2.1 e
 have:=BX g e;omega):p:=h
theorem Z3j_(h:p:=by
 have g1:(i:Int)<(n:Int):=by omega
 obtain⟨b,off,rfl,dx,bI,bC⟩:=BE hlt;first|(have qqep:=qqep;have bV:=Qc (n:=m) bI)|(skip)
 have fZ:b<w.heap.size:=by omega
 have k0:wr.cell? ⟨b,off+i*2,none⟩=some (.int .u8 (l[i].ty:Int)):=(bP.cell (p:=⟨b,off+i*2,none⟩) fZ).trans (bC 0 _ rfl);have k1:wr.cell? ⟨b,off+i*2+1,none⟩=some (.string (str l[i].load)):=(bP.cell (p:=⟨b,off+i*2+1,none⟩) fZ).trans (bC 1 _ rfl);have mh:=CF.out _ (List.getElem_mem bI)
 first
 | have qqep:=qqep
   have mF:=P7.out _ (List.getElem_mem bI);rw[←HC.out]at bV;have mY:=Lib.hid bV
   clear bV bC
 | have mF:=Nat.le_trans (kR (List.getElem_mem bI)) lG.out
   have cL:Hid (FS=D++(cutN M ⟨decide (i=0),decide (i+1=n),true,false,l[i].ty,tr,ch,[]⟩ l[i].load++cutL M ch tr n (i+1) (l.drop (i+1)))):=Lib.hid (by rw[HC.out,List.drop_eq_getElem_cons bI,Zi]);clear bC HC
 generalize l[i]=s at*
 first
 | done
 | have qqep:=qqep
 | obtain⟨T,hT⟩:∃T,T=cutL M ch tr n (i+1) (l.drop (i+1)):=⟨_,rfl⟩
   rw[←hT]at cL;have HT:=Lib.hid hT;clear hT;(obtain⟨b1,bK⟩:∃b,b=decide (i=0):=⟨_,rfl⟩);(obtain⟨b2,bF⟩:∃b,b=decide (i+1=n):=⟨_,rfl⟩);rw[←bK,←bF]at cL;(have q1:((i:Int)==0)=b1:=by rw[bK,Bool.eq_iff_iff];simp);(have q2:((i:Int)==(n:Int)-1)=b2:=by rw[bF,Bool.eq_iff_iff];simp;omega);clear bK bF
 obtain⟨sb,w2,bD,bo,hS,Hc⟩:=zq wr #[.int .u8 0,.string ⟨#[]⟩] 84;first|(have qqep:=qqep;have dD:=zi s.load)|(skip)
 go_wp2_with(with_reducible refine h_B ?_);rw[←bD,←bo]
 first
 | done
 | have qqep:=qqep
 | have G1:xb<sb:=by rw[bD];exact hX.lt
   (have Rt:wr.heap.size≤sb:=by rw[bD];exact Nat.le_refl _);clear bD bo
 refine zc (zn (v:=.agg #[.int .u8 (s.ty:Int),.string (str s.load)]) (vs:=[.int .u8 (s.ty:Int),.string (str s.load)]) rfl rfl rfl rfl hS rfl Wj Wz WZ #[.int .u8 (s.ty:Int),.string (str s.load)] Wz ?_)
 first
 | have qqep:=qqep
   intro w3 dN H6 _;(have G1:w.heap.size≤sb:=by rw[bD];exact bP.size);have sP:xb≠sb:=by have:=hX.lt;omega
   have bS:=(hX.below Hc).grown H6 (by intro e;injection e with e;exact sP e)
 | intro w3 dN H6 ef
   clear ef;have bS:=(hX.below Hc).grown H6 (sne Wq);have eM:=zk (zh hO Hc) H6 (fun g hg e=>by injection e with e;have:=(hO.blk_lt hg).2;omega)
 have Hh:Below w.heap.size w w3:=(bP.trans (Hc.mono bP.size)).grown H6 (Nat.le_trans bP.size Hc.size) Wx
 first
 | have qqep:=qqep
   clear hS H6 Hc x0 x1 x2 k0 k1 bD bo
 | clear hS H6 Hc hO x0 x1 x2 k0 k1 bP hX Rt
   have x0:=bS.c0;have x1:=bS.c1
 have x2:=bS.c2;have s0:=dN.c0;have s1:=dN.c1
 first
 | have qqep:=qqep
   have ft:IntKind.i64.wrap ((16384:Int)-(m:Int))=(16384:Int)-(m:Int):=IntWalk.i64_in _ ⟨by omega,by omega⟩;by_cases c1:3<s.ty
   ·have qqkm:=();exact Z46_
   ·(have d1:decide ((3:Int)<(s.ty:Int))=false:=by simp;omega);rcases Nat.eq_zero_or_pos i with rfl|nA
    ·have qq6r:=();exact Z13_
    exact Z13_
 | obtain⟨fb,w4,bD,bo,hF,Hn⟩:=zq w3 #[.bool false,.bool false,.bool false,.bool false,.int .u8 0,.int .u8 0,.int .u16 0,.string ⟨#[]⟩] 97
   go_wp2_with(with_reducible refine h_B ?_);rw[←bD,←bo];(have Oh:xb<fb:=by rw[bD];exact bS.lt);(have C1:sb<fb:=by rw[bD];exact dN.lt);(have nw:w3.heap.size≤fb:=by rw[bD];exact Nat.le_refl _);clear bD bo;refine zc (zn (v:=.agg #[.bool b1,.bool b2,.bool true,.bool false,.int .u8 (s.ty:Int),.int .u8 (tr:Int),.int .u16 (ch:Int),.string ⟨#[]⟩]) (vs:=[.bool b1,.bool b2,.bool true,.bool false,.int .u8 (s.ty:Int),.int .u8 (tr:Int),.int .u16 (ch:Int),.string ⟨#[]⟩]) rfl rfl rfl rfl hF rfl Wj Wz WZ #[.bool b1,.bool b2,.bool true,.bool false,.int .u8 (s.ty:Int),.int .u8 (tr:Int),.int .u16 (ch:Int),.string ⟨#[]⟩] Wz ?_);intro w5 iO H9 ef;clear ef;have B3:=(bS.below Hn).grown H9 (sne Wq);have BN:=(dN.below Hn).grown H9 (sne Wq);have gj:=zk (zh eM Hn) H9 (fun g hg e=>by injection e with e;have:=(eM.blk_lt hg).2;omega);(have C9:∀g,blk A2=some g→g≠fb:=fun g hg e=>by have:=(eM.blk_lt hg).2;omega);have bw:Below w.heap.size w w5:=(Hh.trans (Hn.mono Hh.size)).grown H9 (Nat.le_trans Hh.size Hn.size) Wx;clear hF H9 Hn eM x0 x1 x2 s0 s1 Hh bS dN;clear nw;have s1:=BN.c1;go_wp2_with(with_reducible refine h_B ?_);have lN:=gj;have Wm:=hN
   go_loopw [7,11] (fun s7 us wr=>∃(N c2:Nat) (A2:Option Addr) (D:List Fr) (rest:List UInt8) (bg fi:Bool) (pl:List UInt8),s7= .slice A2 N c2∧us= .string (str rest)∧N≤16388∧rest.length≤16384∧Hid (D.length=N)∧Hid (FS=D++(cutN M ⟨b1,b2,bg,false,s.ty,tr,ch,[]⟩ rest++T))∧OwnF wr (xb+1) A2 N c2 D∧(∀g,blk A2=some g→g≠fb)∧
    Box wr xb 42 #[.int .u16 (ch:Int),.int .u8 (tr:Int),.slice (some ⟨b,off,none⟩) n c]∧Box wr fb 97 #[.bool b1,.bool b2,.bool bg,.bool fi,.int .u8 (s.ty:Int),.int .u8 (tr:Int),.int .u16 (ch:Int),.string (str pl)]∧Below w.heap.size w wr) (fun _ us _=>Qb us)
   case atStart=>exact⟨N,c2,A2,D,s.load,true,false,[],rfl,rfl,hN,mF,HD,cL,lN,C9,B3,iO,bw⟩
   case round=>
    clear lN gj Wm hN HD cL C9 B3 iO bw BN s1 mF G1 C1;obtain⟨N,c2,A2,D,rest,bg,fi,pl,rfl,rfl,hN,ik,HD,HC,hO,C9,hX,hF,bP⟩:=hrel;(obtain⟨R,hR⟩:∃R,R=rest.length:=⟨_,rfl⟩);(have dD:(str rest).size=R:=by rw[hR];exact zi rest);(have DL:R≤16384:=by omega);(obtain⟨K,hK⟩:∃K,K=min M R:=⟨_,rfl⟩);(have pL:(if R<M then(R:Int)else(M:Int))=(K:Int):=by split<;>omega);(have m8:min (M:Int) (R:Int)=(K:Int):=by omega);(have hKR:K≤R:=by omega);(have lu:R≤rest.length:=by omega);(have Wg:rest.length≤R:=by omega);have HK:=Lib.hid hK;have iY:=Lib.hid hR;clear hR hK;go_upto_region 14 with fail;refine zt (fun W:World=>True) Wj ?_;have hS:True:=trivial;have Bt:Box wr.drew xb 42 #[.int .u16 (ch:Int),.int .u8 (tr:Int),.slice (some ⟨b,off,none⟩) n c]:=hX;have UP:Box wr.drew fb 97 #[.bool b1,.bool b2,.bool bg,.bool fi,.int .u8 (s.ty:Int),.int .u8 (tr:Int),.int .u16 (ch:Int),.string (str pl)]:=hF;have lL:OwnF wr.drew (xb+1) A2 N c2 D:=hO;have Bn:Below w.heap.size w wr.drew:=za bP 1;clear hX hF hO bP;generalize wr.drew=w7 at*;refine rg_t 0 hS ?_;simp only[List.getElem_toArray,List.getElem_cons_zero,Act.put,List.setIfInBounds_toArray,List.set_cons_zero,List.set_cons_succ];refine rg_t 1 hS ?_;simp only[g_S];refine ze 2 (v:=?_) rfl Wj Wj Wj hS rfl ?_ ?_;rotate_left
    ·intro wS He;rw[qL (x:=.tmp 54) (lo:=none) (hi:=some<| .tmp 55) underlying9 (l:=rest) (i:=0) (j:=K)]<;>first|rfl|omega|exact .inl ⟨rfl,rfl⟩|exact .inr ⟨_,_,rfl,rfl⟩
    simp only[g_S];refine rg_t 3 hS ?_;simp only[g_S];refine rg_t 4 hS ?_;simp only[g_S];refine ze 5 (v:=?_) rfl Wj Wj Wj hS rfl ?_ ?_;rotate_left
    ·intro wS He;rw[qL (x:=.tmp 57) (lo:=some<| .tmp 58) (hi:=none) underlying9 (l:=rest) (i:=K) (j:=rest.length)]<;>first|rfl|omega|exact .inl ⟨rfl,rfl⟩|exact .inr ⟨_,_,rfl,rfl⟩
    simp only[g_S];simp only[List.drop_zero,List.take_length];(obtain⟨PC,tA⟩:∃q,q=rest.take K:=⟨_,rfl⟩);(obtain⟨RS,sO⟩:∃q,q=rest.drop K:=⟨_,rfl⟩);rw[←tA,←sO];(have Lv:RS.length=R-K:=by rw[sO,List.length_drop,←iY.out]);have GW:=Lib.hid tA;have wI:=Lib.hid sO;clear tA sO;refine rg_t 6 hS ?_;simp only[g_S];refine zj 7 rfl Wj rfl (fun K1 bB=>?_);refine zK (g:=fb) (j:=7) (v:=.string (str PC)) (vs:=[.string (str PC)]) rfl rfl rfl UP rfl Wj Wz WZ #[.bool b1,.bool b2,.bool bg,.bool fi,.int .u8 (s.ty:Int),.int .u8 (tr:Int),.int .u16 (ch:Int),.string (str PC)] Wz ?_;intro w8 dy H5 ef;clear ef;have cq:=Bt.grown H5 (sne Wq);have Gx:=zk lL H5 (fun g hg e=>by injection e with e;exact C9 g hg e.symm);have Bf:Below w.heap.size w w8:=Bn.grown H5 Bn.size Wx;refine bB _ _ hS ?_;clear bB K1 hS Bt UP lL Bn H5;(try simp only[g_S]);have hS:True:=trivial;refine rg_t 8 hS ?_;simp only[g_S];refine zz Wj ?_;clear w7;obtain⟨fin,iN⟩:∃q,q=decide (R≤M):=⟨_,rfl⟩
    have hq:(str RS).toList.isEmpty=fin:=by
     rw[zl,iN,Bool.eq_iff_iff];have:=HK.out
     cases RS with
     | nil=>simp at Lv ⊢;omega
     | cons x r=>simp at Lv ⊢;omega
    have Id:=Lib.hid iN;clear iN;go_wp2_with(with_reducible refine h_B ?_);refine zc (zn (j:=3) (v:=.bool fin) (vs:=[.bool fin]) rfl rfl rfl rfl dy rfl Wj Wz WZ #[.bool b1,.bool b2,.bool bg,.bool fin,.int .u8 (s.ty:Int),.int .u8 (tr:Int),.int .u16 (ch:Int),.string (str PC)] Wz ?_);intro w9 tM du ef;clear ef;have i7:=cq.grown du (sne Wq);have Of:=zk Gx du (fun g hg e=>by injection e with e;exact C9 g hg e.symm);have Bl:Below w.heap.size w w9:=Bf.grown du Bf.size Wx;clear cq Gx Bf dy du;clear w8;have f0:=tM.c0;have f1:=tM.c1;have f2:=tM.c2;have f3:=tM.c3;have f4:=tM.c4;have f5:=tM.c5;have f6:=tM.c6;have f7:=tM.c7;have MF:=tM.lt;go_wp2_with(with_reducible refine h_B ?_);refine zc (jS yE slF underlying65 rfl rfl rfl rfl rfl (⟨b1,b2,bg,fin,s.ty,tr,ch,PC⟩:Fr) rfl Of Wq Wq (by have:=i7.lt;omega) ?_);intro A3 c3 wa tR cU mr _
    have LX:∀g,blk A3=some g→g≠fb:=fun g hg=>by
     rcases mr with e|e
     ·exact C9 g (by rw[←e];exact hg)
     have:=e g hg;omega
    have nV:=i7.grown cU (fun e=>by have:=(Of.blk_lt e.symm).1;omega);have iG:=tM.grown cU (fun e=>C9 _ e.symm rfl);have hBa:Below w.heap.size w wa:=Bl.grown cU Bl.size (fun g hg=>by have:=(Of.blk_lt hg).1;omega);have Cv:Hid ((D++ [(⟨b1,b2,bg,fin,s.ty,tr,ch,PC⟩:Fr)]).length=N+1):=Lib.hid (by have:=HD.out;simp;omega)
    have tF:N+1≤16388:=by
     have h1:=HD.out;have h2:=congrArg List.length HC.out;have h3:=HM.out
     have h4:1≤(cutN M ⟨b1,b2,bg,false,s.ty,tr,ch,[]⟩ rest).length:=by
      have:=zb3 M rest.length ⟨b1,b2,bg,false,s.ty,tr,ch,[]⟩ rest;unfold cutN;exact List.length_pos_iff.2 this
     simp only[List.length_append]at h2;omega
    clear i7 Of tM Bl cU mr C9 f0 f1 f2 f3 f4 f5 f6 f7;have f3:=iG.c3
    cases fin with
    | true=>
     have HE:Hid (FS=(D++ [(⟨b1,b2,bg,true,s.ty,tr,ch,PC⟩:Fr)])++cutL M ch tr n (i+1) (l.drop (i+1))):=Lib.hid (by
      (have gu:R≤M:=by simpa using Id.out.symm);(have e1:PC=rest:=by rw[GW.out,List.take_of_length_le];have:=HK.out;omega);rw[HC.out,kP (by rw[←iY.out];exact gu),←HT.out,e1]
      simp)
     go_wp2_with(with_reducible refine h_B ?_)
     exact⟨⟨i+1,N+1,c3,A3,_,by omega,rfl,by go_num,tF,Cv,HE,tR,nV,hBa⟩,by simp[RowKit.intOf];omega⟩
    | false=>
     have fV:M<R:=by have:=Id.out;simpa using this
     have HE:Hid (FS=(D++ [(⟨b1,b2,bg,false,s.ty,tr,ch,PC⟩:Fr)])++(cutN M ⟨b1,b2,false,false,s.ty,tr,ch,[]⟩ RS++T)):=Lib.hid (by
      (have hKM:K=M:=by have:=HK.out;omega);rw[HC.out,kQ Ek (by rw[←iY.out];exact fV),GW.out,wI.out,hKM]
      simp)
     go_wp2_with(with_reducible refine h_B ?_);refine zc (zn (j:=2) (v:=.bool false) (vs:=[.bool false]) rfl rfl rfl rfl iG rfl Wj Wz WZ #[.bool b1,.bool b2,.bool false,.bool false,.int .u8 (s.ty:Int),.int .u8 (tr:Int),.int .u16 (ch:Int),.string (str PC)] Wz ?_);intro wb Ff ph ef;clear ef;have Dr:=nV.grown ph (sne Wq);have S6:=zk tR ph (fun g hg e=>by injection e with e;exact LX g hg e.symm);have lZ:Below w.heap.size w wb:=hBa.grown ph hBa.size Wx;go_wp2_with(with_reducible refine h_B ?_)
     have Ry:Qb (.string (str RS))<Qb (.string (str rest)):=by
      (show(str RS).size<(str rest).size);rw[zi,zi,←iY.out];have:=HK.out;omega
     first
      | exact⟨⟨N+1,c3,A3,_,RS,false,false,PC,rfl,rfl,tF,by omega,Cv,HE,S6,LX,Dr,Ff,lZ⟩,Ry⟩
      | (refine⟨?_,Ry⟩;(repeat apply Exists.intro);exact⟨⟨N+1,c3,A3,_,RS,false,false,PC,rfl,rfl,tF,by omega,Cv,HE,S6,LX,Dr,Ff,lZ⟩,rfl⟩)):p:=h
theorem Z65_(h:p:=by
 go_wp2_with(with_reducible refine h_A ?_);go_meet
 case rel=>exact⟨rfl,rfl⟩):p:=h
theorem Z3l_(h:p:=by
 first
 | have qqf1:=qqf1
   clear hf
 | have RU:=Lib.hid hf
   unfold kJ xz at hf;simp only[Bool.and_eq_true,decide_eq_true_eq]at hf;obtain⟨⟨h1,h2⟩,h3⟩:=hf;rw[h1]at fm;rw[←ee]at h2 rZ fo DN
   have iF:Hid ((∀i,i<m.args.length→okI m i=true)→RES=kG m.cls m.code m.sync (zF (m.args.map toSA))++(List.range m.args.length).flatMap (byI m)∧E=0):=Lib.hid fun bJ=>by
    have hg:yI m=true:=by
     unfold yI;rw[RU.out,Bool.true_and];exact List.all_eq_true.2 fun i hi=>bJ i (List.mem_range.1 hi)
    rw[eK,hE];unfold putM errM;rw[if_pos hg,if_pos hg];exact⟨rfl,rfl⟩
   have cJ:Hid (∀i,i<m.args.length→okI m i=false→RES=[]∧E=80):=Lib.hid fun i hi BO=>by
    exact Z3e_
   have EP:Hid (∀i (h:i<m.args.length) (h':i<kd.length) (hx:AH) (W:World),RAw W m.args[i] hx→Calls prog 60 #[.int .u8 (kd[i].toNat:Int),.agg (agV m.args[i] hx)] W (ArgR W (okI m i) (byI m i))):=Lib.hid fun i h h' hx W ha=>by
    (have e1:okI m i=okA kd[i] m.args[i]:=by unfold okI xz;rw[←ee,List.getElem?_eq_getElem h',List.getElem?_eq_getElem h]);(have e2:byI m i=byA kd[i] m.args[i]:=by unfold byI xz;rw[←ee,List.getElem?_eq_getElem h',List.getElem?_eq_getElem h]);rw[e1,e2];exact DN _ (List.getElem_mem h') _ hx W ha
   have GU:Hid (∀i,(byI m i).length≤2000000):=Lib.hid fun i=>by
    unfold byI;split
    ·exact ZB _ _
    simp
   (have BE:=fun(i:Nat) (hi:i<m.args.length)=>hm.elem hi);have sV:=Lib.hid BE;(have Du:(m.args.map toSA).length=m.args.length:=by simp);(have Rs:Hid (∀i (h:i<m.args.length),(m.args.map toSA).drop i=toSA m.args[i]::(m.args.map toSA).drop (i+1)):=Lib.hid fun i h=>by rw[List.drop_eq_getElem_cons NQ];simp);generalize m.args.map toSA=L0 at*;clear DN BE rZ eK hE ee h1 BR nD hm;(obtain⟨n,hn⟩:∃n,n=m.args.length:=⟨_,rfl⟩);rw[←hn]at hX Hi x3 h2 Du iF cJ Ov ⊢;have HN:=Lib.hid hn;clear hn;(have bQ:((n:Int)!=((str kd).size:Int))=false:=by rw[dD,h2];simp);(have DC:((n:Int)!=(kd.length:Int))=false:=by rw[h2];simp);(have hM:n≤3:=by omega);(have Pr:n≤kd.length:=by omega);(have Sm:kd.length≤n:=by omega);(have Cs:L0.length≤n:=by omega);(have Rr:n≤L0.length:=by omega);clear h2 Du;have ta:=Lib.hid fo;(obtain⟨sy,wo⟩:∃s,s=m.sync:=⟨_,rfl⟩);(obtain⟨cls,gJ⟩:∃s,s=m.cls:=⟨_,rfl⟩);(obtain⟨cod,r4⟩:∃s,s=m.code:=⟨_,rfl⟩);rw[←wo,←gJ]at h3;rw[←wo,←gJ,←r4]at iF;rw[←wo,←gJ,←r4]at hX Hi;rw[←wo]at x2;rw[←gJ]at x0 bC;rw[←r4]at x1 Fu;rw[←gJ,←r4]at fm;rw[←gJ,←r4,←wo];clear wo gJ r4 fo
 go_enter func43,ntmps43;go_upto_region 1 with fail;rw[←Hg,←Hi];clear Hg Hi;go_wp2_with(with_reducible refine h_A ?_);refine fm.mono ?_;rintro e w2 ⟨rfl,Hc⟩;have Hk:=hX.below Hc;have H3:=Ha.trans (Hc.mono Ha.size);have hz:=Box.new w2 #[.int .u8 0,.int .u8 0,.string ⟨#[]⟩,.string ⟨#[]⟩] 127;have ug:=Hk.alloc (.cells #[.int .u8 0,.int .u8 0,.string ⟨#[]⟩,.string ⟨#[]⟩] 127);have cZ:=H3.alloc H3.size (.cells #[.int .u8 0,.int .u8 0,.string ⟨#[]⟩,.string ⟨#[]⟩] 127);have DX:=Hk.lt;have C6:=H3.size;clear fm x0 x1 x2 x3 hX Ha Hc;go_wp2_with(with_reducible refine h_B ?_);obtain⟨rb,cX⟩:∃g,g=w2.heap.size:=⟨_,rfl⟩
 rw[←cX]at hz DX C6 ⊢;clear cX;generalize(w2.alloc (.cells #[.int .u8 0,.int .u8 0,.string ⟨#[]⟩,.string ⟨#[]⟩] 127))=w3 at*;refine zc (zn (v:=.agg #[.int .u8 (rw_c:Int),.int .u8 (rw_k:Int),.string (str rw_n),.string (str kd)]) (vs:=[.int .u8 (rw_c:Int),.int .u8 (rw_k:Int),.string (str rw_n),.string (str kd)]) rfl rfl rfl rfl hz rfl Wj Wz vV #[.int .u8 (rw_c:Int),.int .u8 (rw_k:Int),.string (str rw_n),.string (str kd)] Wz ?_);intro w5 hR H9 gI;have B3:=ug.grown H9 (sne Wq);have bw:=cZ.grown H9 cZ.size Wx;clear hz ug cZ H3 Hk H9 gI;have x0:=B3.c0;have x1:=B3.c1;have x2:=B3.c2;have x3:=B3.c3;have r3:=hR.c3
 first
 | have qqf1:=qqf1
   go_wp2_with(with_reducible refine h_A ?_);go_ret2
   exact⟨none,0,rfl,Own.none_ _ _ _ _,bw⟩
 | have dY:=B3.lt
   have ik:=hR.lt;go_upto_region 2 with fail;go_cut [39]from 20 to 39 (fun s wx=>s= .bool false∧w5=wx)
   case first=>
    cases sy
    ·exact Z65_
    (have g3:¬(cls:Int)≤2:=by simp at h3;omega);exact Z65_
   case rest=>
    obtain⟨rfl,rfl⟩:=hcut;clear h3;have fD:=yn (w:=w5) (rb+1) #[.int .u8 (cls:Int),.int .u8 (cod:Int)] 5 2 Wq WX (size:=1) rfl Wq;have nV:=B3.alloc (.cells #[.int .u8 (cls:Int),.int .u8 (cod:Int)] 5);have sW:=hR.alloc (.cells #[.int .u8 (cls:Int),.int .u8 (cod:Int)] 5);have hBa:=bw.alloc bw.size (.cells #[.int .u8 (cls:Int),.int .u8 (cod:Int)] 5);(have TD: #[Value.int .u8 (cls:Int),.int .u8 (cod:Int)].toList=[UInt8.ofNat cls,UInt8.ofNat cod].map u8v:=by simp[u8v,Nat.mod_eq_of_lt bC,Nat.mod_eq_of_lt Fu]);rw[TD]at fD;clear TD;go_upto_region 5 with fail;(obtain⟨lb,dc⟩:∃g,g=w5.heap.size:=⟨_,rfl⟩);rw[←dc]at fD ik dY ⊢;have Sv:=bw.size;rw[←dc]at Sv;clear dc x0 x1 x2 x3 r3 B3 hR bw;generalize(w5.alloc (.cells #[.int .u8 (cls:Int),.int .u8 (cod:Int)] 5))=w6 at*;have x0:=nV.c0;have x1:=nV.c1;have x2:=nV.c2;have x3:=nV.c3;by_cases dK:cls≤2
    ·have qq1o:=();exact Z4_
    have g1:(2:Int)<(cls:Int):=by omega
    cases sy
    ·exact Z4_
    have qq1n:=()
    exact Z4_):p:=h
theorem Z45_(h:p:=by
 first|(have qqiw:=qqiw;have b7:=fun(W:World) (h:Below w.heap.size w W)=>JE a A n c w.heap.size W ((hr.more hB).below h) h.size hw hs hn)|(have b7:=fun(W:World) (h:Below w.heap.size w W)=>Qq a A n c w.heap.size W ((hr.more hB).below h) h.size hw hs hn)
 obtain⟨xb,w0,bD,bo,hX,Hy⟩:=zq w (asV a.chan a.track A n c) 42;have r6:w.heap.size≤xb:=by omega
 by_cases c1:most<1
 first
 | have qqiw:=qqiw
   ·exact Z32_
 | ·have qqdb:=()
    exact Z32_
 have d1:decide (most<1)=false:=by simp;omega
 by_cases c2:4084<most
 first
 | have qqiw:=qqiw
   ·have qqda:=()
    exact Z32_
 | ·have qqdc:=()
    exact Z32_
 have d2:decide (4084<most)=false:=by simp;omega
 obtain⟨M,rfl⟩:∃M:Nat,most=(M:Int):=⟨most.toNat,by omega⟩
 have Ek:1≤M:=by omega
 have tp:M≤4084:=by omega
 first
 | done
 | have qqiw:=qqiw
 | have x0:=hX.c0
   have x1:=hX.c1;have x2:=hX.c2
 cases bJ:asOk a
 first
 | have qqiw:=qqiw
   ·exact Z2h_
 | ·have qqbm:=()
    exact Z2h_
 have e1:xa (M:Int) a=0:=by simp[xa,c1,c2,bJ]
 have e2:cutF (M:Int) a=vq M a:=by simp[cutF,e1]
 have e3:xQ a=0:=by simp[xQ,bJ]
 rw[e1,e2];rw[e3]at b7;have lx:=Zj Ek bJ;obtain⟨Dj,sp,hne⟩:=vZ bJ;have cW:=yM yW hr;have BE:=fun{i:Nat} (hi:i<n)=>xF yW hr hi
 obtain⟨FS,m7⟩:∃l,l=vq M a:=⟨_,rfl⟩
 rw[←m7]at lx ⊢;have mY:Hid (FS=[]++cutL M a.chan a.track n 0 (a.segs.drop 0)):=Lib.hid (by rw[m7,vq,cW];rfl);have HM:=Lib.hid lx;have HN:=Lib.hid cW;have lG:=Lib.hid sp;have CF:=Lib.hid hw.2.2;obtain⟨gD,lm,_⟩:=hw
 first
 | have qqiw:=qqiw
   clear e1 e2 e3 bJ m7 hne lx sp cW hs hr c1 c2
 | have aU:n≤4:=by omega
   clear e1 e2 e3 bJ m7 hne lx sp cW hs hr c1 c2 Dj
 obtain⟨ch,tr,l⟩:=a;simp only at*;unfold asV at*
 first
 | have qqiw:=qqiw
   go_enter func44,ntmps44
   go_wp2_with(with_reducible refine h_A ?_)
 | go_enter func47,ntmps47
   go_upto_region 1 with fail
 rw[←bD,←bo];first|(have qqiw:=qqiw;go_step3)|(skip)
 clear bD bo
 first
 | have qqiw:=qqiw
   have x0:=hX.c0;have x1:=hX.c1
   have x2:=hX.c2
 | skip
 go_wp2_with(with_reducible refine h_A ?_);refine(b7 _ Hy).mono ?_;rintro e w1 ⟨rfl,Ha⟩;have i9:=hX.below Ha;have Hc:=Hy.trans (Ha.mono Hy.size);clear b7 hX Ha Hy x0 x1 x2;clear w0
 first
 | have qqiw:=qqiw
   have x0:=i9.c0
   have x1:=i9.c1
 | skip
 have x2:=i9.c2
 first
 | have qqiw:=qqiw
   go_wp2_with(with_reducible refine h_A ?_)
   go_step3
 | skip
 go_wp2_with(with_reducible refine h_A ?_)
 first
 | have qqiw:=qqiw
   go_loopw [7,27] (fun s7 Ss wr=>∃(i N c2:Nat) (A2:Option Addr) (D:List Fr),i≤n∧s7= .slice A2 N c2∧Ss= .int .i64 (i:Int)∧N≤16388∧Hid (D.length=N)∧Hid (FS=D++cutL M ch tr n i (l.drop i))∧OwnF wr (xb+1) A2 N c2 D∧Box wr xb 42 #[.int .u16 (ch:Int),.int .u8 (tr:Int),.slice A n c]∧Below w.heap.size w wr) (fun _ Ss _=>n-(RowKit.intOf Ss).toNat)
 | go_loopw [6,7] (fun s6 s7 wr=>∃(i N c2:Nat) (A2:Option Addr) (D:List Fr),i≤n∧s6= .slice A2 N c2∧s7= .int .i64 (i:Int)∧N≤16388∧Hid (D.length=N)∧Hid (FS=D++cutL M ch tr n i (l.drop i))∧OwnF wr (xb+1) A2 N c2 D∧Box wr xb 42 #[.int .u16 (ch:Int),.int .u8 (tr:Int),.slice A n c]∧Below w.heap.size w wr) (fun _ s7 _=>n-(RowKit.intOf s7).toNat)
 case atStart=>exact⟨0,0,0,none,[],by omega,rfl,rfl,by omega,Lib.hid rfl,mY,Own.none_ _ _ _ _,i9,Hc⟩
 first|(have qqiw:=qqiw;clear mY x0 x1 x2 i9 Hc w1)|(clear mY x2 i9 Hc w1)
 obtain⟨i,N,c2,A2,D,hi,rfl,rfl,hN,HD,HC,hO,hX,bP⟩:=hrel
 first
 | have qqiw:=qqiw
   have x0:=hX.c0
   have x1:=hX.c1
 | skip
 have x2:=hX.c2;by_cases hlt:i<n
 first
 | have qqiw:=qqiw
   ·exact Z3j_
   ·have qqd8:=()
    exact Z31_
 | ·have g1:(i:Int)<(n:Int):=by omega
    obtain⟨b,off,rfl,dx,bI,bC⟩:=BE hlt;(have fZ:b<w.heap.size:=by omega);(have dA:∀W,Below w.heap.size w W→W.cell? ⟨b,off+i*2,none⟩=some (.int .u8 (l[i].ty:Int)):=fun W hW=>(hW.cell (p:=⟨b,off+i*2,none⟩) fZ).trans (bC 0 _ rfl));have k1:wr.cell? ⟨b,off+i*2+1,none⟩=some (.string (str l[i].load)):=(bP.cell (p:=⟨b,off+i*2+1,none⟩) fZ).trans (bC 1 _ rfl);have mh:=CF.out _ (List.getElem_mem bI);have mF:=Nat.le_trans (kR (List.getElem_mem bI)) lG.out;have cL:Hid (FS=D++(cutN M ⟨decide (i=0),decide (i+1=n),true,false,l[i].ty,tr,ch,[]⟩ l[i].load++cutL M ch tr n (i+1) (l.drop (i+1)))):=Lib.hid (by rw[HC.out,List.drop_eq_getElem_cons bI,Zi]);clear bC HC;generalize l[i].ty=ty at*;generalize l[i].load=s at*;(obtain⟨T,hT⟩:∃T,T=cutL M ch tr n (i+1) (l.drop (i+1)):=⟨_,rfl⟩);rw[←hT]at cL;have HT:=Lib.hid hT;clear hT;(obtain⟨b1,bK⟩:∃b,b=decide (i=0):=⟨_,rfl⟩);(obtain⟨b2,bF⟩:∃b,b=decide (i+1=n):=⟨_,rfl⟩);rw[←bK,←bF]at cL;(have q1:((i:Int)==0)=b1:=by rw[bK,Bool.eq_iff_iff];simp);(have q2:((i:Int)==(n:Int)-1)=b2:=by rw[bF,Bool.eq_iff_iff];simp;omega);clear bK bF;have dD:=zi s;(obtain⟨LL,pU⟩:∃x,x=s.length:=⟨_,rfl⟩);rw[←pU]at mF dD;(have gf:LL≤s.length:=by omega);(have cN:s.length≤LL:=by omega);have pJ:=Lib.hid pU;clear pU;go_wp2_with(with_reducible refine h_A ?_)
    go_loopw [6,9] (fun s6 s9 wr=>∃(N c2 fr:Nat) (A2:Option Addr) (D:List Fr),s6= .slice A2 N c2∧s9= .int .i64 (fr:Int)∧fr≤LL+M∧N≤16388∧Hid (D.length=N)∧Hid (FS=D++((if fr=0∨fr<LL then cutN M ⟨b1,b2,decide (fr=0),false,ty,tr,ch,[]⟩ (s.drop fr)else [])++T))∧OwnF wr (xb+1) A2 N c2 D∧
     Box wr xb 42 #[.int .u16 (ch:Int),.int .u8 (tr:Int),.slice (some ⟨b,off,none⟩) n c]∧Below w.heap.size w wr) (fun _ s9 _=>LL+M+1-(RowKit.intOf s9).toNat)
    case atStart=>exact⟨N,c2,0,A2,D,rfl,rfl,by omega,hN,HD,by rw[if_pos (.inl rfl)];simpa using cL,hO,hX,bP⟩
    clear cL HD hN hO hX bP x2 k1;obtain⟨N,c2,fr,A2,D,rfl,rfl,nt,hN,HD,HC,hO,hX,bP⟩:=hrel;by_cases fH:fr=0∨fr<LL
    ·(obtain⟨to_,sY⟩:∃x,x=min (fr+M) LL:=⟨_,rfl⟩);(have pL:(if(LL:Int)<(fr:Int)+(M:Int)then(LL:Int)else(fr:Int)+(M:Int))=(to_:Int):=by split<;>omega);(have m8:min ((fr:Int)+(M:Int)) (LL:Int)=(to_:Int):=by omega);(have AP:fr≤to_:=by omega);(have uh:to_≤LL:=by omega);(obtain⟨fi,mO⟩:∃b,b=decide (to_=LL):=⟨_,rfl⟩);(have ph:((to_:Int)==(LL:Int))=fi:=by rw[mO,Bool.eq_iff_iff];simp;omega);(obtain⟨b3,bX⟩:∃b,b=decide (fr=0):=⟨_,rfl⟩);(have cU:((fr:Int)==0)=b3:=by rw[bX,Bool.eq_iff_iff];simp);have pV:=Lib.hid mO;have Od:=Lib.hid bX;have N7:=Lib.hid sY;have To:Hid (FS=D++(cutN M ⟨b1,b2,b3,false,ty,tr,ch,[]⟩ (s.drop fr)++T)):=Lib.hid (by rw[HC.out,if_pos fH,bX]);clear HC;have HC:=To;clear To sY mO bX;have od:=hX.c2;have W9:IntKind.i64.wrap ((n:Int)-1)=(n:Int)-1:=IntWalk.i64_in _ ⟨by omega,by omega⟩
     cases Cw:b3
     ·exact Zn_
     have qq3t:=();exact Zn_
    have HE:Hid (FS=D++cutL M ch tr n (i+1) (l.drop (i+1))):=Lib.hid (by rw[HC.out,if_neg fH,←HT.out,List.nil_append]);(have g2:¬(fr:Int)=0:=by omega);(have g3:¬(fr:Int)<(LL:Int):=by omega);clear HC fH;go_wp2_with(with_reducible refine h_A ?_);exact⟨⟨i+1,N,c2,A2,D,by omega,rfl,by go_num,hN,HD,HE,hO,hX,bP⟩,by simp[RowKit.intOf];omega⟩
   ·exact Z31_):p:=h
theorem Z4k_(h:p:=by
 refine hK _ _ BN ?_;clear hK K;try simp only[g_S]
 refine rg_t 12 BN ?_;simp only[g_S];refine zz Wj ?_;go_wp2_with fail;go_meet
 exact⟨rb,rfl,rfl,NL,eo,fT,BN⟩):p:=h
theorem Z4t_(h:p:=by
 go_wp2_with(with_reducible refine h_A ?_);refine zG rfl fT rfl rfl underlying127 rfl Wj rfl ?_;rw[HR.out]
 exact⟨rfl,bw⟩):p:=h
theorem Z4u_(h:p:=by
 have eg:=hlt pb hF;rcases GK pb e with e|e
 ·obtain⟨q1,q2,_⟩:=kr hm hf lm h0 h1 e;exact pu _ _ hf.2.2 Wq q1 q2
 omega):p:=h
theorem Z4v_(h:p:=by
 have HH:=Lib.hid hh;clear hh;go_wp2_with fail;go_meet
 case rel=>exact⟨by first|(rw[HH.out];done)|(rw[HH.out];rfl),rfl⟩):p:=h
theorem Z5d_(h:p:=by
 injection h with h;injection h with _ h;injection h with h1 h2;subst h1 h2;exact⟨by omega,by omega⟩):p:=h
theorem Z4y_(h:p:=by
 split at h
 ·cases h
 exact Z5d_):p:=h
theorem Z4z_(h:p:=by
 go_wp2_with(with_reducible refine h_A ?_)
 exact⟨⟨j+1,by omega,by go_num,nh,hz,hb,hB⟩,by simp[RowKit.intOf];omega⟩):p:=h
theorem Z51_(h:p:=by
 have g1:¬(i:Int)<(n:Int):=by omega
 exact Z6f_):p:=h
theorem Z52_(h:p:=by
 refine iz 8 Wq Wq Wq Wq Wq Wq ?_
 unfold yu at h;rw[e]at h;simpa using h):p:=h
theorem Z54_(h:p:=by
 go_wp2_with(with_reducible refine h_A ?_)
 exact⟨⟨j+1,by omega,by go_num,nh,bF,Hc⟩,by simp[RowKit.intOf];omega⟩):p:=h
theorem Z55_(h:p:=by
 go_enter func27,ntmps27;go_wp2;go_region
 all_goals(go_wp2;go_ret;exact⟨rfl,.below (Below.drew (Below.refl _ w))⟩)):p:=h
theorem Z56_(h:p:=by
 rcases hk with e|e|e
 ·exact .inl (e▸dc)
 ·exact .inl (tK k e)
 have:=BX k e;have:=eQ.1;exact .inr Wq):p:=h
theorem Z57_(h:p:=by
 rw[t1,t2]at h';obtain⟨e,h2⟩:=Zd l1 l2 h'
 exact⟨by rw[(zL _ _).1 ea,(zL _ _).1 eb];unfold agS;simp[e],h2⟩):p:=h
theorem Z58_(h:p:=by
 unfold onT;by_cases e1:f.chan=c
 ·have:¬f.track=t:=fun e2=>h ⟨e1.symm,e2.symm⟩
  simp[this]
 simp[e1]):p:=h
theorem Z5a_(h:p:=by
 rw[h2];clear h2;go_enter func70,ntmps70;go_wp2_with(with_reducible refine h_A ?_);go_ret
 exact⟨rfl,rfl⟩):p:=h
theorem Z5b_(h:p:=by
 clear HR;go_wp2_with(with_reducible refine h_A ?_)
 all_goals
  go_ret;rw[eU.out]
  exact⟨by simp_all,H3⟩):p:=h
theorem Z5c_(h:p:=by
 exact Z6b_):p:=h
theorem Z5e_(h:p:=by
 rw[List.length_map];refine RdX.of_own ho (fun g hg=>?_);have:=ho.blk_lt hg
 exact⟨by omega,this.2⟩):p:=h
theorem Z5f_(h:p:=by
 unfold yu at h;rw[e]at h;simp only[List.append_assoc]at h
 exact(Qw (i:=4) NQ).2):p:=h
theorem Z5g_(h:p:=by
 clear h;go_enter func110,ntmps110;go_wp2_with(with_reducible refine h_A ?_);go_ret
 exact⟨rfl,rfl⟩):p:=h
theorem Z5h_(h:p:=by
 rintro e w' ⟨m,A2,c2,er,rfl,mi,Hc,hG⟩;obtain⟨rfl,rfl⟩:=V3 hG
 exact⟨A2,c2,rfl,mi,Hc⟩):p:=h
theorem Z5i_(h:p:=by
 rcases a3 with h3|h3
 ·exact .inl h3
 refine .inr fun g hg=>?_
 rw[h3]at hg
 simp at hg;omega):p:=h
theorem Z5j_(h:p:=by
 go_wp2_with(with_reducible refine h_A ?_);go_ret2;rw[Mc.out,mm.out]
 exact⟨nG,c10,rfl,tU,nP⟩):p:=h
theorem Z5k_(h:p:=by
 rw[e1];go_enter func66,ntmps66;go_wp2_with(with_reducible refine h_A ?_);go_ret
 exact⟨rfl,rfl⟩):p:=h
theorem Z5l_(h:p:=by
 go_wp2_with(with_reducible refine h_A ?_)
 cases c₀
 simp_all [bodyPostS,results,Tryz.results176]):p:=h
theorem Z5n_(h:p:=by
 go_wp2_with(with_reducible refine h_A ?_);go_ret
 exact⟨⟨true,rfl,zAf⟩,rfl⟩):p:=h
theorem Z5q_(h:p:=by
 clear p0 p5 iA;go_wp2_with(with_reducible refine h_A ?_);go_meet
 case rel=>exact⟨rfl,rfl⟩):p:=h
theorem Z5r_(h:p:=by
 go_enter func108,ntmps108;go_wp2_with(with_reducible refine h_A ?_);go_ret
 exact⟨rfl,rfl⟩):p:=h
theorem Z5u_(h:p:=by
 have gc:=(qe q1 Wq).1;by_cases hb:4≤b.length
 ·have:=QD [c] hb;omega
 omega):p:=h
theorem Z5v_(h:p:=by
 unfold wpOp;rw[hj];simp only[nl,if_true]
 exact .inl (h' _ fun a' w' h1 h2=>⟨h1,h2⟩)):p:=h
theorem Z5w_(h:p:=by
 go_wp2_with(with_reducible refine h_A ?_);go_ret;rw[HF.out]
 exact⟨rfl,Below.refl _ _⟩):p:=h
theorem Z5x_(h:p:=by
 clear hlt
 exact Z6e_):p:=h
theorem Z5y_(h:p:=by
 clear he;go_wp2_with fail;go_meet
 case rel=>exact⟨_,rfl,Lib.hid (by simp[h2]),rfl⟩):p:=h
theorem Z5z_(h:p:=by
 unfold wpOp;rw[hi];simp only[hw,if_true]
 exact .inl (h _ fun a' w' h1 h2=>⟨h1,h2⟩)):p:=h
theorem Z60_(h:p:=by
 exact .inr ⟨_,rfl,by rw[run_sliceBound w kd _ y code Wq Wq];simp⟩):p:=h
theorem Z62_(h:p:=by
 go_wp2_with(with_reducible refine h_A ?_);go_ret
 exact⟨by rw[HF.out];rfl,rfl⟩):p:=h
theorem Z63_(h:p:=by
 go_wp2_with(with_reducible refine h_A ?_);go_ret
 exact⟨by rw[HV.out];rfl,Hc⟩):p:=h
theorem Z64_(h:p:=by
 simp[asAddr,run_loadVar_row w g t ty cs (0,0) d hb hu hd hi,Result.andThen]):p:=h
theorem Z66_(h:p:=by
 injection h with h1 h;injection h with h2 h3
 exact⟨h1.symm,h2.symm,h3.symm⟩):p:=h
theorem Z6a_(h:p:=by
 exact⟨by rw[(zL _ _).1 ea,(zL _ _).1 eb];unfold agN;simp[e],h2⟩):p:=h
end Go.PH
