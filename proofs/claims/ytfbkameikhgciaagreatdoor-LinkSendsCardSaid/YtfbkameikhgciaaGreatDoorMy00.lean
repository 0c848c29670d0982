/- Proofs that stand several times. -/
import Derived.Shelf.Utf8.RuneCount
import Derived.Shelf.Strings.Search1
import Derived.Shelf.Strings.Search2
import Derived.Shelf.Strings.Search3
import Derived.Shelf.Strings.Count
import Derived.Shelf.LaysM
import Derived.Shelf.Strings.Shaped
import Derived.Shelf.Strings.Split
import Derived.Shelf.Strings.SplitShaped
import Derived.Shelf.Unicode.Decode
import Derived.Shelf.Strings.RuneCount
import Derived.Shelf.Strings.Explode
import Derived.Shelf.Unicode.DecodeSlow
import Derived.Shelf.Unicode.DecodeAny
import Derived.Shelf.Slices.Equal
import Derived.Shelf.Slices.Empties2
import Derived.Shelf.Bytes.SlSearch0
import Derived.Ground.SlbCloneProg
import Derived.Shelf.Bytes.SlClone
import Derived.Shelf.Bytes.SlEqualAll
import Derived.Shelf.Bytes.Small
import Derived.WalkKit
import Derived.Lib.Hide
import Derived.Deep.Draws
import Derived.Laws.CopyOwn
import Derived.Deep.AppendLies
import Derived.Maps.AppendAt
import Derived.Deep.DeepAppendRoom
import Derived.Lib.AppendStr
import Derived.Maps.RangeWalk
import Derived.Maps.Views
import Derived.WideKeyEntry
import Derived.Maps.OwnSet
import Derived.Deep.DeepAppendWide
import Derived.Laws.CopyRow
import Derived.Laws.Tables
import Derived.Laws.ResultCell
import Derived.Deep.AppendSrc
import Derived.Deep.Upon
import Derived.Maps.OwnOps
import Derived.OrdersHeld
import Derived.Deep.RegionHeld3
import Derived.ProofKit
import Derived.OpenShut
import Derived.Deep.DeepHandedRow
import Derived.Lib.LaidTab
import Derived.SizedLaws
import Derived.Deep.Slices
import Derived.Deep.QuietTactic
import Derived.BigQuiet
import Derived.Laws.BitsAllLaws
import Derived.Laws.Bits64
import Derived.Lib.Builder
import Derived.Lib.UnsafeStr
import Derived.Laws.Externs
import Derived.RegionTactic
import Derived.BigRegion
import Derived.Deep.RegionWith
import Derived.DeepKeys4
import Derived.Deep.Cut
import Derived.WalkSpells
import Derived.Lib.LazyBuf
import Derived.Laws.StructEq
import Derived.Lib.ConvBytes
import Derived.Deep.CutRange
import Derived.WalkMore
import Derived.Lib.SplitLaws
import Derived.Deep.DeepCutAuto
import Derived.WalkLawsBesides
import Derived.Lib.DecodeN
import Derived.Lib.TrimU
import Derived.Lib.OthersKept
import Derived.Lib.LaidU8
import Derived.StringKeys
import Derived.Defers
import Derived.Recover
import Derived.Deep.CutBlock
import Derived.Lib.Bytealg
set_option linter.all false
set_option maxRecDepth 100000
set_option maxHeartbeats 8000000
namespace Go.PH
open Go.RowKit Go.Proofs
variable {p : Prop}
theorem Wj(h:p:=by kernel_rfl):p:=h
theorem Wq(h:p:=by omega):p:=h
theorem Wx(h:p:=by exact(fun g hg=>by injection hg with hg;omega)):p:=h
theorem Wz(h:p:=by simp):p:=h
theorem WJ(h:p:=by decide):p:=h
theorem WQ(h:p:=by intro u hu;simp at hu;rcases hu with rfl|rfl|rfl|rfl|rfl<;>rfl):p:=h
theorem WX(h:p:=by simp[maxLen]):p:=h
theorem WZ(h:p:=by simp[Value.oneCell']):p:=h
theorem wj(h:p:=by intro e;have:=Bz _ e.symm;omega):p:=h
theorem wJ(h:p:=by exact(fun g' Ho bG=>by injection Ho with Ho;have:=hF g' bG;omega)):p:=h
theorem wQ(h:p:=by exact(fun g hg=>by have:=Bz g hg;exact⟨by omega,.inr (.inr this.2)⟩)):p:=h
theorem wX(h:p:=by simp;rfl):p:=h
theorem wZ(h:p:=by exact(fun g hg bG=>by injection hg with hg;have:=hF g bG;omega)):p:=h
theorem Hj(h:p:=by unfold maxLen;omega):p:=h
theorem Hq(h:p:=by simp;omega):p:=h
theorem Hx(h:p:=by injection hg with hg;exact hg.symm):p:=h
theorem Hz(h:p:=by intro e;injection e with e;have:=hg.1;omega):p:=h
theorem uj(h:p:=by injection hk with hk;exact hk.symm):p:=h
theorem uq(h:p:=by injection e with e;exact e.symm):p:=h
theorem ux(h:p:=by exact(fun e=>by injection e with e;omega)):p:=h
theorem uz(h:p:=by exact(fun g hg e=>by injection e with e;have:=Bc g hg;omega)):p:=h
theorem uJ(h:p:=by exact(fun g hg bG=>by have:=Bz g hg;have:=hF g bG;omega)):p:=h
theorem uQ(h:p:=by exact(fun e g hg=>by rw[e]at hg;injection hg with hg;exact Nat.le_of_eq hg)):p:=h
theorem uX(h:p:=by exact(fun g hg=>by injection hg with hg;subst hg;exact⟨dP.1,.inl rfl⟩)):p:=h
theorem uZ(h:p:=by intro u hu;simp at hu;rcases hu with rfl|rfl|rfl|rfl<;>rfl):p:=h
theorem Uj(h:p:=by exact(fun g hg=>by injection hg with hg;exact⟨by omega,.inl hg.symm⟩)):p:=h
theorem Uq(h:p:=by have:(vlC (x,hx)).length=5:=rfl;omega):p:=h
theorem Ux(h:p:=by injection e with e;rw[←e];exact h0.lb):p:=h
theorem Uz(h:p:=by rw[BA.out];simp[okA,zw,ag0,agN,agS,agX,agQ,agX2,xd0,cF.out,HS.out,HX.out,HQ.out,HV.out]):p:=h
theorem UJ(h:p:=by simp[maxLen];omega):p:=h
theorem UQ(h:p:=by exact(fun g e=>by injection e with e;subst e;exact⟨rL.1,.inr (.inl rfl)⟩)):p:=h
theorem UX(h:p:=by injection e with e;rw[←e];exact h1.lb):p:=h
theorem UZ(h:p:=by intro u hu;simp at hu;rcases hu with rfl<;>rfl):p:=h
theorem mj(h:p:=by intro u hu;simp at hu;rcases hu with rfl|rfl|rfl<;>rfl):p:=h
theorem mq(h:p:=by intro h;cases h):p:=h
theorem mz(h:p:=by rw[List.length_drop];omega):p:=h
theorem mJ(h:p:=by intro e;have e2:ob=zb:=(by simpa using e);omega):p:=h
theorem mQ(h:p:=by exact(fun g hg=>by have h9:some lb=some g:=hg;injection h9 with h9;omega)):p:=h
theorem mX(h:p:=by have:=hX.lt;omega):p:=h
theorem mZ(h:p:=by rw[BA.out];simp[okA,zw,ag0,agN,agS,agX,agQ,agX2,xd0,cF.out,HN.out,HX.out,HQ.out,HV.out]):p:=h
theorem Mj(h:p:=by exact(fun iO=>by have:=(hF ab iO).1;omega)):p:=h
theorem Mq(h:p:=by intro e;have:=(cR.blk_lt e.symm).1;omega):p:=h
theorem Mx(h:p:=by exact(fun k hk=>⟨fun e=>rH (e▸hk),fun e=>by have:=B0 k hk;have:=EQ k e;omega⟩)):p:=h
theorem Mz(h:p:=by exact(fun h=>by cases h)):p:=h
theorem MJ(h:p:=by injection hg with hg;rw[←hg];exact hF):p:=h
theorem MQ(h:p:=by have Ho:w.drew.heap[gb]?=some (.cells cur 5 (0,0)):=hg;simp[World.shape?,Ho]):p:=h
theorem MX(h:p:=by rw[←HN.out];omega):p:=h
theorem MZ(h:p:=by first|rfl|rw[eK]):p:=h
theorem nj(h:p:=by exact(fun x hx=>by have:=Bk.out x hx;omega)):p:=h
theorem nz(h:p:=by rw[HN.out];omega):p:=h
theorem nJ(h:p:=by exact(fun g hg=>by injection hg with hg;subst hg;exact⟨rL.1,.inr (.inl rfl)⟩)):p:=h
theorem nQ(h:p:=by intro u hu;simp at hu;subst hu;rfl):p:=h
theorem nX(h:p:=by exact(fun g hg=>by injection hg with hg;exact⟨by omega,.inr (.inl hg.symm)⟩)):p:=h
theorem nZ(h:p:=by have:hdrB.length=8:=rfl;omega):p:=h
theorem Nj(h:p:=by intro e;have:=Bc _ e.symm;omega):p:=h
theorem Nq(h:p:=by rw[←HC.out,HD.out,hp];simp):p:=h
theorem Nx(h:p:=by rw[←HC.out,HD.out,hs];rfl):p:=h
theorem Nz(h:p:=by simpa using h):p:=h
theorem NJ(h:p:=by injection e):p:=h
theorem NQ(h:p:=by rw[d9.out];omega):p:=h
theorem NX(h:p:=by have:=eu.size;omega):p:=h
theorem NZ(h:p:=by have:=HN.out;omega):p:=h
theorem zAa(h:p:=by rw[hk,←e]):p:=h
theorem zAb(h:p:=by exact(fun k hk=>by cases hk)):p:=h
theorem zAc(h:p:=by rw[HT.out,HE.out];simp):p:=h
theorem zAd(h:p:=by intro e;cases e):p:=h
theorem zAe(h:p:=by exact(fun e=>by cases e)):p:=h
theorem zAf(h:p:=by exact(fun e=>by omega)):p:=h
theorem zAg(h:p:=by simpa using hl):p:=h
theorem zAh(h:p:=by rw[e];rfl):p:=h
theorem Z3q_(h:p:=by
 first
 | done
 | have qqjm:=qqjm
   refine zK (g:=g) (j:=xs.length*5) (v:=.agg #[.int .u8 (x.kind:Int),.int .u64 (x.n:Int),.string (str x.s),.slice hx.A1 x.keys.length hx.c1,.slice hx.A2 x.list.length hx.c2]) (vs:=vlC (x,hx)) rfl rfl rfl BV rfl Wj Uq (vlShape.one _) _ rfl ?_;intro w8 Bj H5 _;have cI:=bY.setlast di (dj (x,hx) w8 _ rfl Bj) H5;have cp:=bA.grown H5 (sne Wq);have dl:=Bf.grown H5 (sne Wq);have BR:=bF.kept H5 wJ;have bT:=bw.grown hBa H5 (fun g' Ho=>by injection Ho with Ho;exact⟨by omega,.inr (.inr Wq)⟩);clear bY bA Bf bF bw di H5 BV Bj;have bY:=cI;have bA:=cp;have Bf:=dl;have bF:=BR;have bw:=bT;clear cI cp dl BR bT;refine bB _ _ trivial ?_;clear bB K
   refine zj 15 rfl Wj rfl (fun K bB=>?_)
 | have qqjl:=qqjl
 | have qqgk:=qqgk
   refine zK (g:=g) (j:=xs.length*5) (v:=.agg #[.int .u8 (x.kind:Int),.int .u64 (x.n:Int),.string (str x.s),.slice hx.A1 x.keys.length hx.c1,.slice hx.A2 x.list.length hx.c2]) (vs:=vlC (x,hx)) rfl rfl rfl BV rfl Wj Uq (vlShape.one _) _ rfl ?_;intro w8 Bj H5 _;have cI:=bY.setlast di (dj (x,hx) w8 _ rfl Bj) H5;have cp:=bA.grown H5 (sne Wq);have dl:=Bf.grown H5 (sne Wq);have BR:=bF.kept H5 wJ;have bT:=bw.grown hBa H5 (fun g' Ho=>by injection Ho with Ho;exact⟨by omega,.inr (.inr Wq)⟩);clear bY bA Bf bF bw di H5 BV Bj;have bY:=cI;have bA:=cp;have Bf:=dl;have bF:=BR;have bw:=bT;clear cI cp dl BR bT;refine bB _ _ trivial ?_;clear bB K
   refine zj 15 rfl Wj rfl (fun K bB=>?_)
 | have qqgj:=qqgj
   refine zK (g:=g) (j:=xs.length*5) (v:=.agg #[.int .u8 (x.kind:Int),.int .u64 (x.n:Int),.string (str x.s),.slice hx.A1 x.keys.length hx.c1,.slice hx.A2 x.list.length hx.c2]) (vs:=vlC (x,hx)) rfl rfl rfl BV rfl Wj Uq (vlShape.one _) _ rfl ?_;intro w8 Bj H5 _;have cI:=bY.setlast di (dj (x,hx) w8 _ rfl Bj) H5;have cp:=bA.grown H5 (sne Wq);have dl:=Bf.grown H5 (sne Wq);have BR:=bF.kept H5 wJ;have bT:=bw.grown hBa H5 (fun g' Ho=>by injection Ho with Ho;exact⟨by omega,.inr (.inr Wq)⟩);clear bY bA Bf bF bw di H5 BV Bj;have bY:=cI;have bA:=cp;have Bf:=dl;have bF:=BR;have bw:=bT;clear cI cp dl BR bT;refine bB _ _ trivial ?_;clear bB K
   refine zj 15 rfl Wj rfl (fun K bB=>?_)
 | have qqgi:=qqgi
   refine zK (g:=g) (j:=xs.length*5) (v:=.agg #[.int .u8 (x.kind:Int),.int .u64 (x.n:Int),.string (str x.s),.slice hx.A1 x.keys.length hx.c1,.slice hx.A2 x.list.length hx.c2]) (vs:=vlC (x,hx)) rfl rfl rfl BV rfl Wj Uq (vlShape.one _) _ rfl ?_;intro w8 Bj H5 _;have cI:=bY.setlast di (dj (x,hx) w8 _ rfl Bj) H5;have cp:=bA.grown H5 (sne Wq);have dl:=Bf.grown H5 (sne Wq);have BR:=bF.kept H5 wJ;have bT:=bw.grown hBa H5 (fun g' Ho=>by injection Ho with Ho;exact⟨by omega,.inr (.inr Wq)⟩);clear bY bA Bf bF bw di H5 BV Bj;have bY:=cI;have bA:=cp;have Bf:=dl;have bF:=BR;have bw:=bT;clear cI cp dl BR bT;refine bB _ _ trivial ?_;clear bB K
   refine zj 15 rfl Wj rfl (fun K bB=>?_)
 | have qqgh:=qqgh
   refine zK (g:=g) (j:=xs.length*5) (v:=.agg #[.int .u8 (x.kind:Int),.int .u64 (x.n:Int),.string (str x.s),.slice hx.A1 x.keys.length hx.c1,.slice hx.A2 x.list.length hx.c2]) (vs:=vlC (x,hx)) rfl rfl rfl BV rfl Wj Uq (vlShape.one _) _ rfl ?_;intro w8 Bj H5 _;have cI:=bY.setlast di (dj (x,hx) w8 _ rfl Bj) H5;have cp:=bA.grown H5 (sne Wq);have dl:=Bf.grown H5 (sne Wq);have BR:=bF.kept H5 wJ;have bT:=bw.grown hBa H5 (fun g' Ho=>by injection Ho with Ho;exact⟨by omega,.inr (.inr Wq)⟩);clear bY bA Bf bF bw di H5 BV Bj;have bY:=cI;have bA:=cp;have Bf:=dl;have bF:=BR;have bw:=bT;clear cI cp dl BR bT;refine bB _ _ trivial ?_;clear bB K
   refine zj 15 rfl Wj rfl (fun K bB=>?_)
 | skip
 refine zK (g:=xb) (j:=4) (v:=.slice (some ⟨g,0,none⟩) (xs.length+1) c4) (vs:=[.slice (some ⟨g,0,none⟩) (xs.length+1) c4]) rfl rfl rfl bA rfl Wj Wz wX #[.int .u8 kd,.int .u64 0,.string ⟨#[]⟩,.slice fT cu.length gW,.slice (some ⟨g,0,none⟩) (xs.length+1) c4] Wz ?_;intro w7 Bp H9 _;replace bY:=bY.box H9 Wq;have fg:=Bf.grown H9 (sne Wq);have BJ:=bF.kept H9 wJ;have BC:=bw.grown hBa H9 (fun g' Ho=>by injection Ho with Ho;exact⟨by omega,.inr (.inr Wq)⟩);try replace di:=(di.keep (fun g' Ho=>H9.block g' Ho.2.1 (by intro e;injection e with e;have:=Ho.1;omega)) H9.size).mono (fun g' Ho=>(⟨Ho.1,Nat.lt_of_lt_of_le Ho.2.1 H9.size,Ho.2.2⟩:FB2 (xb+1) _ _ w7 g'))
 clear bA Bf bF bw;have bA:=Bp;have Bf:=fg;have bF:=BJ;have bw:=BC;clear Bp fg BJ BC
 first
 | done
 | have qqjm:=qqjm
 | have qqjl:=qqjl
   refine bB _ _ trivial ?_;clear bB K;replace BV:=BV.grown H9 (sne Wq);refine zj 12 rfl Wj rfl (fun K bB=>?_);refine zK (g:=g) (j:=xs.length*5) (v:=.agg #[.int .u8 (x.kind:Int),.int .u64 (x.n:Int),.string (str x.s),.slice hx.A1 x.keys.length hx.c1,.slice hx.A2 x.list.length hx.c2]) (vs:=vlC (x,hx)) rfl rfl rfl BV rfl Wj Uq (vlShape.one _) _ rfl ?_;intro w8 Bj H5 _;have cI:=bY.setlast di (dj (x,hx) w8 _ rfl Bj) H5;have cp:=bA.grown H5 (sne Wq);have dl:=Bf.grown H5 (sne Wq);have BR:=bF.kept H5 wJ;have bT:=bw.grown hBa H5 (fun g' Ho=>by injection Ho with Ho;exact⟨by omega,.inr (.inr Wq)⟩);clear bY bA Bf bF bw di H5 BV Bj;have bY:=cI;have bA:=cp;have Bf:=dl;have bF:=BR;have bw:=bT
   clear cI cp dl BR bT
 | have qqgk:=qqgk
 | have qqgj:=qqgj
 | have qqgi:=qqgi
 | have qqgh:=qqgh
 | refine bB _ _ trivial ?_
   clear bB K;replace BV:=BV.grown H9 (sne Wq);refine zj 12 rfl Wj rfl (fun K bB=>?_);refine zK (g:=g) (j:=xs.length*5) (v:=.agg #[.int .u8 (x.kind:Int),.int .u64 (x.n:Int),.string (str x.s),.slice hx.A1 x.keys.length hx.c1,.slice hx.A2 x.list.length hx.c2]) (vs:=vlC (x,hx)) rfl rfl rfl BV rfl Wj Uq (vlShape.one _) _ rfl ?_;intro w8 Bj H5 _;have cI:=bY.setlast di (dj (x,hx) w8 _ rfl Bj) H5;have cp:=bA.grown H5 (sne Wq);have dl:=Bf.grown H5 (sne Wq);have BR:=bF.kept H5 wJ;have bT:=bw.grown hBa H5 (fun g' Ho=>by injection Ho with Ho;exact⟨by omega,.inr (.inr Wq)⟩);clear bY bA Bf bF bw di H5 BV Bj;have bY:=cI;have bA:=cp;have Bf:=dl;have bF:=BR;have bw:=bT;clear cI cp dl BR bT
 refine bB _ _ trivial ?_;clear bB K;refine qT Wj ?_;go_wp2_with(with_reducible refine h_A ?_)
 exact⟨⟨xs.length+1,cu,fT,gW,some ⟨g,0,none⟩,c4,xs++ [(x,hx)],lq,nq,by omega,by go_num,Lib.hid Wz,by omega,Bk,tm,bY,bF,Bf,bA,bw,Lib.hid (by rw[List.map_append];exact HT.out)⟩,by simp[RowKit.intOf];omega⟩):p:=h
theorem Z3m_(h:p:=by
 first
 | done
 | have qqex:=qqex
 | have z4:=hX.c4
   go_simp;refine bB _ _ trivial ?_;clear bB K;(try simp only[g_S]);clear z4;refine ya ?_ 8 (v:=?_) rfl Wj Wj Wj trivial rfl ?_ ?_
   ·repeat(first|refine zR ?_|refine zH ?_|exact zQ _ _ _)
   rotate_left
   ·intro wS _;go_simp;(with_reducible rfl)
   (try simp only[g_S]);refine zj 9 rfl Wj rfl (fun K bB=>?_)
 go_simp;have hM:=Box.new wq #[.int .u8 0,.int .u64 0,.string ⟨#[]⟩,.slice none 0 0,.slice none 0 0] 78;have cw:=(Below.refl wq.heap.size wq).alloc (Nat.le_refl _) (.cells #[.int .u8 0,.int .u64 0,.string ⟨#[]⟩,.slice none 0 0,.slice none 0 0] 78);refine bB _ _ trivial ?_;clear bB K;try simp only[g_S]
 obtain⟨mb,cx⟩:∃g,g=wq.heap.size:=⟨_,rfl⟩
 rw[←cx]at hM ⊢;replace hS:=hS.below cw;replace hX:=hX.below cw;replace hR:=hR.below cw;replace hP:=hP.below cw;have sJ:a.heap.size≤mb:=by rw[cx];exact bu.size
 replace bu:=bu.below hBa cw;have i8:=cw.size;clear cx;replace hV:=(hV.keep (fun g hg=>cw.block g hg.2) i8).mono (fun g hg=>(⟨hg.1,Nat.lt_of_lt_of_le hg.2 i8⟩:FN W4 _ g));generalize(wq.alloc (.cells #[.int .u8 0,.int .u64 0,.string ⟨#[]⟩,.slice none 0 0,.slice none 0 0] 78))=wm at*
 first
 | have qqex:=qqex
   refine zj 3 rfl Wj rfl (fun K bB=>?_);have z4:=hX.c4;go_simp;refine bB _ _ trivial ?_;clear bB K;(try simp only[g_S]);clear z4;refine ya ?_ 8 (v:=?_) rfl Wj Wj Wj trivial rfl ?_ ?_
   ·repeat(first|refine zR ?_|refine zH ?_|exact zQ _ _ _)
   rotate_left
   ·intro wS _;go_simp;(with_reducible rfl)
   try simp only[g_S]
 | skip
 have BE:=d9.out;subst BE;have Bu:Own _ (xb+1) 78 5 A xs.length c (rowC vlC xs):=hS.own;refine zj 10 rfl Wj rfl (fun K bB=>?_);refine jL (ops:=#[]) slVl underlying76 rfl rfl rfl Bu (vg (n:=1) (sz:=5) hM rfl WJ) WQ Wq Hj mX ?_;intro A4 c4 w6 bS bm eD;have iR:rowC vlC xs++(#[.int .u8 0,.int .u64 0,.string ⟨#[]⟩,.slice none 0 0,.slice none 0 0]).toList=rowC vlC (xs++ [(vl0,(⟨none,0,none,0⟩:VH))]):=by rw[ql];rfl
 rw[iR]at bS;clear iR;have B0:blk A4=blk A∨∀g,blk A4=some g→_≤g:=eD.imp id uQ
 have bY:=hS.push h4 eL (RV.zero _ _) bS bm B0;have di:=hS.fresh h4 eL hV bm B0;have Bz:∀g',blk A=some g'→xb+1≤g'∧a.heap.size≤g':=fun g' Ho=>by have:=(hS.own.blk_lt Ho).1;omega
 have bA:=hX.grown bm wj;have Bf:=hP.grown bm wj;have bF:=hR.kept bm uJ;have bw:=bu.grown hBa bm wQ;refine bB _ _ trivial ?_;clear bB K;obtain⟨g,cur,rfl,eP,BV,fZ,dj⟩:=kk vlShape bS;clear hS hX hP hR bu hV hM Bu bm eD B0 bS Bz h4;try simp only[g_S]
 have g5:(xs.length:Int)<(xs.length:Int)+1:=by omega
 have g6:xs.length<xs.length+1:=by omega
 refine ya ?_ 11 (v:=?_) rfl Wj Wj Wj trivial rfl ?_ ?_
 ·repeat(first|refine zR ?_|refine zH ?_|exact zQ _ _ _)
 rotate_left
 ·intro wS _;go_simp;(with_reducible rfl)
 try simp only[g_S]
 refine ya ?_ 13 (v:=?_) rfl Wj Wj Wj trivial rfl ?_ ?_
 ·repeat(first|refine zR ?_|refine zH ?_|exact zQ _ _ _)
 rotate_left
 ·intro wS _;go_simp;(with_reducible rfl)
 try simp only[g_S]
 refine ya ?_ 14 (v:=?_) rfl Wj Wj Wj trivial rfl ?_ ?_
 ·repeat(first|refine zR ?_|refine zH ?_|exact zQ _ _ _)
 rotate_left
 ·intro wS _;go_simp;(with_reducible rfl)
 try simp only[g_S]
 have sI:g≠xb:=by omega
 refine xO 12 15 rfl rfl Wj rfl rfl (fun K bB=>?_) (fun K bB=>?_)
 ·have qqjm:=();exact Z3q_
 have qqjl:=()
 exact Z3q_):p:=h
theorem Z1_(h:p:=by
 first|(have qq1:=qq1;have B2:Hid (r=none):=Lib.hid (HN.out nL))|(have HT:=Lib.hid (NK.out q nL))
 rw[nL]at B1;clear nL HN NK
 first
 | done
 | have qq1:=qq1
 | obtain⟨x,lq,nq⟩:=q
   have tm:nq≤200:=by
    unfold ja at B1;split at B1
    ·cases B1
    exact Nat.le_trans (ZS f ni lj x lq nq B1.symm).2 PG
 refine Jm 3 7 9 rfl rfl rfl Wj rfl rfl rfl (fun K bB=>?_) (fun K bB=>?_) (fun K bB=>?_)
 ·have z4:=hX.c4;go_simp;refine bB _ _ trivial ?_;clear bB K;try simp only[g_S]
  clear z4;refine ya ?_ 8 (v:=?_) rfl Wj Wj Wj trivial rfl ?_ ?_
  ·repeat(first|refine zR ?_|refine zH ?_|exact zQ _ _ _)
  rotate_left
  ·intro wS _;go_simp;(with_reducible rfl)
  try simp only[g_S]
  refine xO 7 9 rfl rfl Wj rfl rfl (fun K bB=>?_) (fun K bB=>?_)
  ·have B4:=bP (d+1) ni F B pb vb v lj bj wd Wq hR hP hFp (fun g hg=>⟨(hF g hg).1,Nat.lt_of_lt_of_le (hF g hg).2 bu.size⟩) hBp nF;rw[←B1,fG]at B4;go_simp;refine B4.mono ?_;rintro e wq By;clear B4
   first
   | have qq1:=qq1
     obtain⟨rfl,Bk⟩:=By
     exact⟨rfl,by rw[B2.out];exact⟨rfl,bu.trans Bk⟩⟩
   | obtain⟨hx,rfl,hV,Bw,mf,Bk⟩:=By
     unfold vlV;(have h4:∀g,blk A=some g∨blk fT=some g→g<wd.heap.size:=fun g hg=>hg.elim (fun e=>(hS.own.blk_lt e).2) (fun e=>(hS.kown.blk_lt e).2));have eL:xb+1≤wd.heap.size:=hX.lt;replace hS:=Bk.mns hS Wq Wq;replace hX:=Bk.box hX Wq Wq;clear hR hP;have hR:=Bw;have hP:=mf;replace bu:=bu.trans Bk;clear Bw mf Bk;(obtain⟨W4,rV⟩:∃g,g=wd.heap.size:=⟨_,rfl⟩);rw[←rV]at h4 eL hV;clear rV;refine bB _ _ trivial ?_;clear bB K;(try simp only[g_S]);refine zj 9 rfl Wj rfl (fun K bB=>?_);go_simp;have hM:=Box.new wq #[.int .u8 0,.int .u64 0,.string ⟨#[]⟩,.slice none 0 0,.slice none 0 0] 78;have cw:=(Below.refl wq.heap.size wq).alloc (Nat.le_refl _) (.cells #[.int .u8 0,.int .u64 0,.string ⟨#[]⟩,.slice none 0 0,.slice none 0 0] 78);refine bB _ _ trivial ?_;clear bB K;(try simp only[g_S]);(obtain⟨mb,cx⟩:∃g,g=wq.heap.size:=⟨_,rfl⟩);rw[←cx]at hM ⊢;replace hS:=hS.below cw;replace hX:=hX.below cw;replace hR:=hR.below cw;replace hP:=hP.below cw;(have sJ:a.heap.size≤mb:=by rw[cx];exact bu.size);replace bu:=bu.below hBa cw;have i8:=cw.size;clear cx;replace hV:=(hV.keep (fun g hg=>cw.block g hg.2) i8).mono (fun g hg=>(⟨hg.1,Nat.lt_of_lt_of_le hg.2 i8⟩:FN W4 _ g));generalize(wq.alloc (.cells #[.int .u8 0,.int .u64 0,.string ⟨#[]⟩,.slice none 0 0,.slice none 0 0] 78))=wm at*;have BE:=d9.out;subst BE;have Bu:Own _ (xb+1) 78 5 A xs.length c (rowC vlC xs):=hS.own;refine zj 10 rfl Wj rfl (fun K bB=>?_);refine jL (ops:=#[]) slVl underlying76 rfl rfl rfl Bu (vg (n:=1) (sz:=5) hM rfl WJ) WQ Wq Hj mX ?_;intro A4 c4 w6 bS bm eD;(have iR:rowC vlC xs++(#[.int .u8 0,.int .u64 0,.string ⟨#[]⟩,.slice none 0 0,.slice none 0 0]).toList=rowC vlC (xs++ [(vl0,(⟨none,0,none,0⟩:VH))]):=by rw[ql];rfl);rw[iR]at bS;clear iR;(have B0:blk A4=blk A∨∀g,blk A4=some g→_≤g:=eD.imp id uQ);have bY:=hS.push h4 eL (RV.zero _ _) bS bm B0;have di:=hS.fresh h4 eL hV bm B0;(have Bz:∀g',blk A=some g'→xb+1≤g'∧a.heap.size≤g':=fun g' Ho=>by have:=(hS.own.blk_lt Ho).1;omega);have bA:=hX.grown bm wj;have Bf:=hP.grown bm wj;have bF:=hR.kept bm uJ;have bw:=bu.grown hBa bm wQ;refine bB _ _ trivial ?_;clear bB K;obtain⟨g,cur,rfl,eP,BV,fZ,dj⟩:=kk vlShape bS;clear hS hX hP hR bu hV hM Bu bm eD B0 bS Bz h4;(try simp only[g_S]);(have g5:(xs.length:Int)<(xs.length:Int)+1:=by omega);(have g6:xs.length<xs.length+1:=by omega);refine ya ?_ 11 (v:=?_) rfl Wj Wj Wj trivial rfl ?_ ?_
     ·repeat(first|refine zR ?_|refine zH ?_|exact zQ _ _ _)
     rotate_left
     ·intro wS _;go_simp;(with_reducible rfl)
     (try simp only[g_S]);refine ya ?_ 13 (v:=?_) rfl Wj Wj Wj trivial rfl ?_ ?_
     ·repeat(first|refine zR ?_|refine zH ?_|exact zQ _ _ _)
     rotate_left
     ·intro wS _;go_simp;(with_reducible rfl)
     (try simp only[g_S]);refine ya ?_ 14 (v:=?_) rfl Wj Wj Wj trivial rfl ?_ ?_
     ·repeat(first|refine zR ?_|refine zH ?_|exact zQ _ _ _)
     rotate_left
     ·intro wS _;go_simp;(with_reducible rfl)
     (try simp only[g_S]);(have sI:g≠xb:=by omega);refine xO 12 15 rfl rfl Wj rfl rfl (fun K bB=>?_) (fun K bB=>?_)
     ·have qqgh:=();exact Z3q_
     ·exact Z3q_
  go_simp;have hM:=Box.new wd #[.int .u8 0,.int .u64 0,.string ⟨#[]⟩,.slice none 0 0,.slice none 0 0] 78;have cw:=(Below.refl wd.heap.size wd).alloc (Nat.le_refl _) (.cells #[.int .u8 0,.int .u64 0,.string ⟨#[]⟩,.slice none 0 0,.slice none 0 0] 78);refine bB _ _ trivial ?_;clear bB K;try simp only[g_S]
  obtain⟨mb,cx⟩:∃g,g=wd.heap.size:=⟨_,rfl⟩
  rw[←cx]at hM ⊢;replace hS:=hS.below cw;replace hX:=hX.below cw;replace hR:=hR.below cw;replace hP:=hP.below cw;have sJ:a.heap.size≤mb:=by rw[cx];exact bu.size
  replace bu:=bu.below hBa cw;have i8:=cw.size;clear cx;generalize(wd.alloc (.cells #[.int .u8 0,.int .u64 0,.string ⟨#[]⟩,.slice none 0 0,.slice none 0 0] 78))=wm at*;refine zj 7 rfl Wj rfl (fun K bB=>?_);have B4:=bP (d+1) ni F B pb vb v lj bj wm Wq hR hP hFp (fun g hg=>⟨(hF g hg).1,Nat.lt_of_lt_of_le (hF g hg).2 bu.size⟩) hBp nF;rw[←B1,fG]at B4;go_simp;refine B4.mono ?_;rintro e wq By;clear B4
  first
  | have qq1:=qq1
    obtain⟨rfl,Bk⟩:=By
    exact⟨rfl,by rw[B2.out];exact⟨rfl,bu.trans Bk⟩⟩
  | obtain⟨hx,rfl,hV,Bw,mf,Bk⟩:=By
    unfold vlV;(have h4:∀g,blk A=some g∨blk fT=some g→g<wm.heap.size:=fun g hg=>hg.elim (fun e=>(hS.own.blk_lt e).2) (fun e=>(hS.kown.blk_lt e).2));have eL:xb+1≤wm.heap.size:=hX.lt;replace hS:=Bk.mns hS Wq Wq;replace hX:=Bk.box hX Wq Wq;replace hM:=Bk.box hM Wq Wq;clear hR hP;have hR:=Bw;have hP:=mf;replace bu:=bu.trans Bk;clear Bw mf Bk;(obtain⟨W4,rV⟩:∃g,g=wm.heap.size:=⟨_,rfl⟩);rw[←rV]at h4 eL hV;clear rV;refine bB _ _ trivial ?_;clear bB K;(try simp only[g_S]);have BE:=d9.out;subst BE;have Bu:Own _ (xb+1) 78 5 A xs.length c (rowC vlC xs):=hS.own;refine zj 10 rfl Wj rfl (fun K bB=>?_);refine jL (ops:=#[]) slVl underlying76 rfl rfl rfl Bu (vg (n:=1) (sz:=5) hM rfl WJ) WQ Wq Hj mX ?_;intro A4 c4 w6 bS bm eD;(have iR:rowC vlC xs++(#[.int .u8 0,.int .u64 0,.string ⟨#[]⟩,.slice none 0 0,.slice none 0 0]).toList=rowC vlC (xs++ [(vl0,(⟨none,0,none,0⟩:VH))]):=by rw[ql];rfl);rw[iR]at bS;clear iR;(have B0:blk A4=blk A∨∀g,blk A4=some g→_≤g:=eD.imp id uQ);have bY:=hS.push h4 eL (RV.zero _ _) bS bm B0;have di:=hS.fresh h4 eL hV bm B0;(have Bz:∀g',blk A=some g'→xb+1≤g'∧a.heap.size≤g':=fun g' Ho=>by have:=(hS.own.blk_lt Ho).1;omega);have bA:=hX.grown bm wj;have Bf:=hP.grown bm wj;have bF:=hR.kept bm uJ;have bw:=bu.grown hBa bm wQ;refine bB _ _ trivial ?_;clear bB K;obtain⟨g,cur,rfl,eP,BV,fZ,dj⟩:=kk vlShape bS;clear hS hX hP hR bu hV hM Bu bm eD B0 bS Bz h4;(try simp only[g_S]);(have g5:(xs.length:Int)<(xs.length:Int)+1:=by omega);(have g6:xs.length<xs.length+1:=by omega);refine ya ?_ 11 (v:=?_) rfl Wj Wj Wj trivial rfl ?_ ?_
    ·repeat(first|refine zR ?_|refine zH ?_|exact zQ _ _ _)
    rotate_left
    ·intro wS _;go_simp;(with_reducible rfl)
    (try simp only[g_S]);refine ya ?_ 13 (v:=?_) rfl Wj Wj Wj trivial rfl ?_ ?_
    ·repeat(first|refine zR ?_|refine zH ?_|exact zQ _ _ _)
    rotate_left
    ·intro wS _;go_simp;(with_reducible rfl)
    (try simp only[g_S]);refine ya ?_ 14 (v:=?_) rfl Wj Wj Wj trivial rfl ?_ ?_
    ·repeat(first|refine zR ?_|refine zH ?_|exact zQ _ _ _)
    rotate_left
    ·intro wS _;go_simp;(with_reducible rfl)
    (try simp only[g_S]);(have sI:g≠xb:=by omega);refine xO 12 15 rfl rfl Wj rfl rfl (fun K bB=>?_) (fun K bB=>?_)
    ·have qqgi:=();exact Z3q_
    ·exact Z3q_
 ·have B4:=bP (d+1) ni F B pb vb v lj bj wd Wq hR hP hFp (fun g hg=>⟨(hF g hg).1,Nat.lt_of_lt_of_le (hF g hg).2 bu.size⟩) hBp nF;rw[←B1,fG]at B4;go_simp;refine B4.mono ?_;rintro e wq By;clear B4
  first
  | have qq1:=qq1
    obtain⟨rfl,Bk⟩:=By
    exact⟨rfl,by rw[B2.out];exact⟨rfl,bu.trans Bk⟩⟩
  | obtain⟨hx,rfl,hV,Bw,mf,Bk⟩:=By
    unfold vlV;(have h4:∀g,blk A=some g∨blk fT=some g→g<wd.heap.size:=fun g hg=>hg.elim (fun e=>(hS.own.blk_lt e).2) (fun e=>(hS.kown.blk_lt e).2));have eL:xb+1≤wd.heap.size:=hX.lt;replace hS:=Bk.mns hS Wq Wq;replace hX:=Bk.box hX Wq Wq;clear hR hP;have hR:=Bw;have hP:=mf;replace bu:=bu.trans Bk;clear Bw mf Bk;(obtain⟨W4,rV⟩:∃g,g=wd.heap.size:=⟨_,rfl⟩);rw[←rV]at h4 eL hV;clear rV;refine bB _ _ trivial ?_;clear bB K;(try simp only[g_S]);refine xO 3 9 rfl rfl Wj rfl rfl (fun K bB=>?_) (fun K bB=>?_)
    ·exact Z3m_
    ·have qqex:=();exact Z3m_
 go_simp;have hM:=Box.new wd #[.int .u8 0,.int .u64 0,.string ⟨#[]⟩,.slice none 0 0,.slice none 0 0] 78;have cw:=(Below.refl wd.heap.size wd).alloc (Nat.le_refl _) (.cells #[.int .u8 0,.int .u64 0,.string ⟨#[]⟩,.slice none 0 0,.slice none 0 0] 78);refine bB _ _ trivial ?_;clear bB K;try simp only[g_S]
 obtain⟨mb,cx⟩:∃g,g=wd.heap.size:=⟨_,rfl⟩
 rw[←cx]at hM ⊢;replace hS:=hS.below cw;replace hX:=hX.below cw;replace hR:=hR.below cw;replace hP:=hP.below cw;have sJ:a.heap.size≤mb:=by rw[cx];exact bu.size
 replace bu:=bu.below hBa cw;have i8:=cw.size;clear cx;generalize(wd.alloc (.cells #[.int .u8 0,.int .u64 0,.string ⟨#[]⟩,.slice none 0 0,.slice none 0 0] 78))=wm at*;refine xO 3 7 rfl rfl Wj rfl rfl (fun K bB=>?_) (fun K bB=>?_)
 ·have z4:=hX.c4;go_simp;refine bB _ _ trivial ?_;clear bB K;try simp only[g_S]
  clear z4;refine ya ?_ 8 (v:=?_) rfl Wj Wj Wj trivial rfl ?_ ?_
  ·repeat(first|refine zR ?_|refine zH ?_|exact zQ _ _ _)
  rotate_left
  ·intro wS _;go_simp;(with_reducible rfl)
  try simp only[g_S]
  refine zj 7 rfl Wj rfl (fun K bB=>?_);have B4:=bP (d+1) ni F B pb vb v lj bj wm Wq hR hP hFp (fun g hg=>⟨(hF g hg).1,Nat.lt_of_lt_of_le (hF g hg).2 bu.size⟩) hBp nF;rw[←B1,fG]at B4;go_simp;refine B4.mono ?_;rintro e wq By;clear B4
  first
  | have qq1:=qq1
    obtain⟨rfl,Bk⟩:=By
    exact⟨rfl,by rw[B2.out];exact⟨rfl,bu.trans Bk⟩⟩
  | obtain⟨hx,rfl,hV,Bw,mf,Bk⟩:=By
    unfold vlV;(have h4:∀g,blk A=some g∨blk fT=some g→g<wm.heap.size:=fun g hg=>hg.elim (fun e=>(hS.own.blk_lt e).2) (fun e=>(hS.kown.blk_lt e).2));have eL:xb+1≤wm.heap.size:=hX.lt;replace hS:=Bk.mns hS Wq Wq;replace hX:=Bk.box hX Wq Wq;replace hM:=Bk.box hM Wq Wq;clear hR hP;have hR:=Bw;have hP:=mf;replace bu:=bu.trans Bk;clear Bw mf Bk;(obtain⟨W4,rV⟩:∃g,g=wm.heap.size:=⟨_,rfl⟩);rw[←rV]at h4 eL hV;clear rV;refine bB _ _ trivial ?_;clear bB K;(try simp only[g_S]);have BE:=d9.out;subst BE;have Bu:Own _ (xb+1) 78 5 A xs.length c (rowC vlC xs):=hS.own;refine zj 10 rfl Wj rfl (fun K bB=>?_);refine jL (ops:=#[]) slVl underlying76 rfl rfl rfl Bu (vg (n:=1) (sz:=5) hM rfl WJ) WQ Wq Hj mX ?_;intro A4 c4 w6 bS bm eD;(have iR:rowC vlC xs++(#[.int .u8 0,.int .u64 0,.string ⟨#[]⟩,.slice none 0 0,.slice none 0 0]).toList=rowC vlC (xs++ [(vl0,(⟨none,0,none,0⟩:VH))]):=by rw[ql];rfl);rw[iR]at bS;clear iR;(have B0:blk A4=blk A∨∀g,blk A4=some g→_≤g:=eD.imp id uQ);have bY:=hS.push h4 eL (RV.zero _ _) bS bm B0;have di:=hS.fresh h4 eL hV bm B0;(have Bz:∀g',blk A=some g'→xb+1≤g'∧a.heap.size≤g':=fun g' Ho=>by have:=(hS.own.blk_lt Ho).1;omega);have bA:=hX.grown bm wj;have Bf:=hP.grown bm wj;have bF:=hR.kept bm uJ;have bw:=bu.grown hBa bm wQ;refine bB _ _ trivial ?_;clear bB K;obtain⟨g,cur,rfl,eP,BV,fZ,dj⟩:=kk vlShape bS;clear hS hX hP hR bu hV hM Bu bm eD B0 bS Bz h4;(try simp only[g_S]);(have g5:(xs.length:Int)<(xs.length:Int)+1:=by omega);(have g6:xs.length<xs.length+1:=by omega);refine ya ?_ 11 (v:=?_) rfl Wj Wj Wj trivial rfl ?_ ?_
    ·repeat(first|refine zR ?_|refine zH ?_|exact zQ _ _ _)
    rotate_left
    ·intro wS _;go_simp;(with_reducible rfl)
    (try simp only[g_S]);refine ya ?_ 13 (v:=?_) rfl Wj Wj Wj trivial rfl ?_ ?_
    ·repeat(first|refine zR ?_|refine zH ?_|exact zQ _ _ _)
    rotate_left
    ·intro wS _;go_simp;(with_reducible rfl)
    (try simp only[g_S]);refine ya ?_ 14 (v:=?_) rfl Wj Wj Wj trivial rfl ?_ ?_
    ·repeat(first|refine zR ?_|refine zH ?_|exact zQ _ _ _)
    rotate_left
    ·intro wS _;go_simp;(with_reducible rfl)
    (try simp only[g_S]);(have sI:g≠xb:=by omega);refine xO 12 15 rfl rfl Wj rfl rfl (fun K bB=>?_) (fun K bB=>?_)
    ·have qqgj:=();exact Z3q_
    ·exact Z3q_
 have B4:=bP (d+1) ni F B pb vb v lj bj wm Wq hR hP hFp (fun g hg=>⟨(hF g hg).1,Nat.lt_of_lt_of_le (hF g hg).2 bu.size⟩) hBp nF;rw[←B1,fG]at B4;go_simp;refine B4.mono ?_;rintro e wq By;clear B4
 first
 | have qq1:=qq1
   obtain⟨rfl,Bk⟩:=By
   exact⟨rfl,by rw[B2.out];exact⟨rfl,bu.trans Bk⟩⟩
 | obtain⟨hx,rfl,hV,Bw,mf,Bk⟩:=By
   unfold vlV;(have h4:∀g,blk A=some g∨blk fT=some g→g<wm.heap.size:=fun g hg=>hg.elim (fun e=>(hS.own.blk_lt e).2) (fun e=>(hS.kown.blk_lt e).2));have eL:xb+1≤wm.heap.size:=hX.lt;replace hS:=Bk.mns hS Wq Wq;replace hX:=Bk.box hX Wq Wq;replace hM:=Bk.box hM Wq Wq;clear hR hP;have hR:=Bw;have hP:=mf;replace bu:=bu.trans Bk;clear Bw mf Bk;(obtain⟨W4,rV⟩:∃g,g=wm.heap.size:=⟨_,rfl⟩);rw[←rV]at h4 eL hV;clear rV;refine bB _ _ trivial ?_;clear bB K;(try simp only[g_S]);refine zj 3 rfl Wj rfl (fun K bB=>?_);have z4:=hX.c4;go_simp;refine bB _ _ trivial ?_;clear bB K;(try simp only[g_S]);clear z4;refine ya ?_ 8 (v:=?_) rfl Wj Wj Wj trivial rfl ?_ ?_
   ·repeat(first|refine zR ?_|refine zH ?_|exact zQ _ _ _)
   rotate_left
   ·intro wS _;go_simp;(with_reducible rfl)
   (try simp only[g_S]);have BE:=d9.out;subst BE;have Bu:Own _ (xb+1) 78 5 A xs.length c (rowC vlC xs):=hS.own;refine zj 10 rfl Wj rfl (fun K bB=>?_);refine jL (ops:=#[]) slVl underlying76 rfl rfl rfl Bu (vg (n:=1) (sz:=5) hM rfl WJ) WQ Wq Hj mX ?_;intro A4 c4 w6 bS bm eD;(have iR:rowC vlC xs++(#[.int .u8 0,.int .u64 0,.string ⟨#[]⟩,.slice none 0 0,.slice none 0 0]).toList=rowC vlC (xs++ [(vl0,(⟨none,0,none,0⟩:VH))]):=by rw[ql];rfl);rw[iR]at bS;clear iR;(have B0:blk A4=blk A∨∀g,blk A4=some g→_≤g:=eD.imp id uQ);have bY:=hS.push h4 eL (RV.zero _ _) bS bm B0;have di:=hS.fresh h4 eL hV bm B0;(have Bz:∀g',blk A=some g'→xb+1≤g'∧a.heap.size≤g':=fun g' Ho=>by have:=(hS.own.blk_lt Ho).1;omega);have bA:=hX.grown bm wj;have Bf:=hP.grown bm wj;have bF:=hR.kept bm uJ;have bw:=bu.grown hBa bm wQ;refine bB _ _ trivial ?_;clear bB K;obtain⟨g,cur,rfl,eP,BV,fZ,dj⟩:=kk vlShape bS;clear hS hX hP hR bu hV hM Bu bm eD B0 bS Bz h4;(try simp only[g_S]);(have g5:(xs.length:Int)<(xs.length:Int)+1:=by omega);(have g6:xs.length<xs.length+1:=by omega);refine ya ?_ 11 (v:=?_) rfl Wj Wj Wj trivial rfl ?_ ?_
   ·repeat(first|refine zR ?_|refine zH ?_|exact zQ _ _ _)
   rotate_left
   ·intro wS _;go_simp;(with_reducible rfl)
   (try simp only[g_S]);refine ya ?_ 13 (v:=?_) rfl Wj Wj Wj trivial rfl ?_ ?_
   ·repeat(first|refine zR ?_|refine zH ?_|exact zQ _ _ _)
   rotate_left
   ·intro wS _;go_simp;(with_reducible rfl)
   (try simp only[g_S]);refine ya ?_ 14 (v:=?_) rfl Wj Wj Wj trivial rfl ?_ ?_
   ·repeat(first|refine zR ?_|refine zH ?_|exact zQ _ _ _)
   rotate_left
   ·intro wS _;go_simp;(with_reducible rfl)
   (try simp only[g_S]);(have sI:g≠xb:=by omega);refine xO 12 15 rfl rfl Wj rfl rfl (fun K bB=>?_) (fun K bB=>?_)
   ·have qqgk:=();exact Z3q_
   ·exact Z3q_):p:=h
theorem Z6e_(h:p:=by
 have:=iE.out;by_cases h:L.length<CN
 ·exact absurd ⟨h,by omega,f1⟩ this
 omega):p:=h
theorem Z3k_(h:p:=by
 first
 | have qqep:=qqep
   subst u5;(obtain rfl:kI=169:=by rw[←fk.out];rfl);obtain⟨vm,sO⟩:∃q,q=j4 (yz f) false (n-1) l1:=⟨_,rfl⟩
   have cm:Hid (∀q,rr=some q→b1=false∧∃q0,vm=some q0∧q=(.mk 169 0 [] q0.1 q0.2.1,q0.2.2)):=Lib.hid (fun q hq=>by
    obtain⟨bL,hv⟩:=HV.out q hq;rw[if_neg WJ,if_neg WJ,if_neg WJ,if_neg WJ,if_neg WJ,if_pos (.inr rfl)]at hv;obtain⟨q0,e1,e2⟩:=Option.map_eq_some_iff.1 hv
    exact⟨bL,q0,sO.trans e1,e2.symm⟩)
 | subst ua
   (obtain rfl:kI=168:=by rw[←fk.out];rfl);obtain⟨vm,sO⟩:∃q,q=j4 (yz f) true (n-1) l1:=⟨_,rfl⟩
   have cm:Hid (∀q,rr=some q→b1=false∧∃q0,vm=some q0∧q=(.mk 168 0 [] q0.1 q0.2.1,q0.2.2)):=Lib.hid (fun q hq=>by
    obtain⟨bL,hv⟩:=HV.out q hq;rw[if_neg WJ,if_neg WJ,if_neg WJ,if_neg WJ,if_neg WJ,if_pos (.inl rfl)]at hv;obtain⟨q0,e1,e2⟩:=Option.map_eq_some_iff.1 hv
    exact⟨bL,q0,sO.trans e1,e2.symm⟩)
 have M4:=Lib.hid sO;clear HV sO;have h2:=yG hR 4 Wq Wq;obtain⟨T,hT⟩:∃t,t=mnum l1 b1 4:=⟨_,rfl⟩
 rw[←hT]at h2;obtain⟨SZ,l2,b2⟩:=T;simp only at h2;have HT:=Lib.hid hT;clear hT;go_wp2_with(with_reducible refine h_B ?_);refine h2.mono ?_;rintro e w6 ⟨rfl,Bw,Hm⟩;have Hk:=hX.grown Hm (sne Wq);have dA:=eG.grown Hm (sne Wq);have cP:=bu.grown bI Hm uX;clear h2 hX hR eG bu Hm;try simp only at Bw
 have h3:=yG Bw 4 Wq Wq;have hlt:=xg l2 b2 4;obtain⟨T,hT⟩:∃t,t=mnum l2 b2 4:=⟨_,rfl⟩
 rw[←hT]at h3 hlt;obtain⟨CN,l3,b3⟩:=T;simp only at h3 hlt;have Io:=Lib.hid hT;clear hT;go_wp2_with(with_reducible refine h_B ?_);refine h3.mono ?_;rintro e w7 ⟨rfl,fx,H7⟩;have bU:=Hk.grown H7 (sne Wq);have eM:=dA.grown H7 (sne Wq);have cy:=cP.grown bI H7 uX;clear h3 Hk Bw dA cP H7;try simp only at fx
 first
 | have qqep:=qqep
   have Mb:Hid (∀q0,b1=false→vm=some q0→b3=false∧CN<200∧xm (yz f) false CN (n-1) l3=some q0):=Lib.hid (fun q0 bL hq=>by
    subst bL;have e:=M4.out;unfold j4 at e;rw[←HT.out,hq]at e;simp only at e;rw[←Io.out]at e;simp only at e;split at e
    ·cases e
    ·rename_i BN
     split at e
     ·cases e
     ·rename_i q1 eQ
      split at e
      ·(injection e with e);subst e;refine⟨?_,by omega,eQ⟩
       cases b3
       ·rfl
       ·exact absurd (.inl rfl) BN
      ·cases e)
 | have Mb:Hid (∀q0,b1=false→vm=some q0→b3=false∧CN<200∧xm (yz f) true CN (n-1) l3=some q0):=Lib.hid (fun q0 bL hq=>by
    subst bL;have e:=M4.out;unfold j4 at e;rw[←HT.out,hq]at e;simp only at e;rw[←Io.out]at e;simp only at e;split at e
    ·cases e
    ·rename_i BN
     split at e
     ·cases e
     ·rename_i q1 eQ
      split at e
      ·(injection e with e);subst e;refine⟨?_,by omega,eQ⟩
       cases b3
       ·rfl
       ·exact absurd (.inl rfl) BN
      ·cases e)
 clear M4 HT Io;have dL:MnS w7 (xb+1) [] none 0 none 0 []:=MnS.nil _ _;go_wp2_with(with_reducible refine h_A ?_)
 first
 | have qqep:=qqep
   go_loopw [2,11] (fun s2 us wr=>∃(i ni:Nat) (KS:List (List UInt8)) (AK:Option Addr) (cK:Nat) (A:Option Addr) (c:Nat) (xs:List (Vl×VH)) (li:List UInt8) (bi:Bool),i≤200∧us= .int .u64 (i:Int)∧s2= .int .i64 (ni:Int)∧ni<n∧Hid (xs.length=i)∧KS.length≤i∧Hid (∀k∈KS,k.length≤255)∧MnS wr (xb+1) KS AK cK A c xs∧
     Box wr xb 78 #[.int .u8 169,.int .u64 0,.string ⟨#[]⟩,.slice AK KS.length cK,.slice A i c]∧Qrd F wr b li bi∧KP B b b w wr∧Box wr rb 78 #[.int .u8 0,.int .u64 0,.string ⟨#[]⟩,.slice none 0 0,.slice none 0 0]∧Hid (∀q0,b1=false→vm=some q0→bi=false∧CN<200∧i≤CN∧∃p,xm (yz f) false (CN-i) ni li=some p∧q0=(KS++p.1,xs.map (·.1)++p.2.1,p.2.2))) (fun _ us _=>200-(RowKit.intOf us).toNat)
 | go_loopw [2,11] (fun s2 us wr=>∃(i ni:Nat) (KS:List (List UInt8)) (AK:Option Addr) (cK:Nat) (A:Option Addr) (c:Nat) (xs:List (Vl×VH)) (li:List UInt8) (bi:Bool),i≤200∧us= .int .u64 (i:Int)∧s2= .int .i64 (ni:Int)∧ni<n∧Hid (xs.length=i)∧KS.length≤i∧Hid (∀k∈KS,k.length≤255)∧MnS wr (xb+1) KS AK cK A c xs∧
     Box wr xb 78 #[.int .u8 168,.int .u64 0,.string ⟨#[]⟩,.slice AK KS.length cK,.slice A i c]∧Qrd F wr b li bi∧KP B b b w wr∧Box wr rb 78 #[.int .u8 0,.int .u64 0,.string ⟨#[]⟩,.slice none 0 0,.slice none 0 0]∧Hid (∀q0,b1=false→vm=some q0→bi=false∧CN<200∧i≤CN∧∃p,xm (yz f) true (CN-i) ni li=some p∧q0=(KS++p.1,xs.map (·.1)++p.2.1,p.2.2))) (fun _ us _=>200-(RowKit.intOf us).toNat)
 case atStart=>exact⟨0,n-1,[],none,0,none,0,[],l3,b3,by omega,rfl,by first|rfl|rw[eK],by omega,Lib.hid rfl,by simp,Lib.hid zAb,dL,bU,fx,cy,eM,Lib.hid (fun q0 h1 h2=>by
  obtain⟨e1,e2,e3⟩:=Mb.out q0 h1 h2
  exact⟨e1,e2,by omega,q0,by rw[Nat.sub_zero];exact e3,by simp⟩)⟩
 clear dL bU fx cy eM Mb eK;obtain⟨i,ni,KS,AK,cK,A,c,xs,li,bi,hi,rfl,rfl,nF,d9,bK,df,hS,hX,hR,bu,cG,HC⟩:=hrel;obtain⟨L,hL⟩:∃L,L=xs.map (·.1):=⟨_,rfl⟩
 obtain rfl:i=L.length:=by rw[hL,List.length_map,d9.out]
 have HL:=Lib.hid hL;clear hL
 have Bs:∃A' c',wr.cell? ⟨b,0,none⟩=some (.slice A' li.length c')∧wr.cell? ⟨b,1,none⟩=some (.bool bi):=by
  obtain⟨A',n',c',e0,e1,_,_,oc,_⟩:=hR;exact⟨A',c',by rw[RdB.length oc];exact e0,e1⟩
 obtain⟨_,_,_,Bs⟩:=Bs;by_cases fL:L.length<CN∧L.length<200∧bi=false
 ·obtain⟨g1,g2,rfl⟩:=fL;have g3:(L.length:Int)<(CN:Int):=by omega
  have g4:(L.length:Int)<200:=by omega
  have x0:=hX.c0
  first
  | have qqep:=qqep
    (obtain⟨w7,rfl⟩:∃q,q=wr:=⟨_,rfl⟩);(obtain⟨cu,rfl⟩:∃q,q=KS:=⟨_,rfl⟩);(obtain⟨A4,rfl⟩:∃q,q=AK:=⟨_,rfl⟩);(obtain⟨c4,rfl⟩:∃q,q=cK:=⟨_,rfl⟩);obtain⟨lj,rfl⟩:∃q,q=li:=⟨_,rfl⟩
    have Bk:=df
  | have h2:=je hR 1 255 Wq Wq Wq Wq
    have pe:=yY li false 1 255;rw[show((255:Nat):Int)=255 from rfl]at pe;(obtain⟨T,hT⟩:∃t,t=zT li false 1 255:=⟨_,rfl⟩);rw[←hT]at h2 pe;obtain⟨ks,lj,bj⟩:=T;simp only at h2 pe;have TV:=Lib.hid hT;clear hT;go_wp2_with(with_reducible refine h_A ?_);refine h2.mono ?_;rintro e w5 ⟨rfl,ew,bc⟩;have BZ:=hX.grown bc (sne Wq);have Im:=cG.grown bc (sne Wq);have Ik:=bu.grown bI bc uX;have BL:=hS.box bc Wq;clear h2 hX hR cG bu bc hS x0;(try simp only at ew);(have fH:Own w5 (xb+1) 9 1 AK KS.length cK (rowC txC KS):=by rw[zat];exact BL.kown);have x3:=BZ.c3;have hei:=BZ.lt;go_wp2_with(with_reducible refine h_A ?_);refine zc (jS (W:=w5) zcT slTx underlying22 rfl rfl rfl rfl rfl ks rfl fH Wq Wq Wq ?_);intro A4 c4 w6 bS bm eD _;rw[zat]at bS;have bY:=BL.pushK bS bm eD;(have Bz:∀g',blk AK=some g'→xb+1≤g'∧w.heap.size≤g':=fun g' Ho=>by have:=(BL.kown.blk_lt Ho).1;omega);have bA:=BZ.grown bm wj;have Ix:=Im.grown bm wj;have bF:=ew.kept bm uJ;have bw:=Ik.grown bI bm wQ;clear x3 BZ ew Im Ik BL fH bS bm eD Bz;go_wp2_with(with_reducible refine h_B ?_);refine zc (zm (v:=.slice A4 (KS.length+1) c4) (vs:=[.slice A4 (KS.length+1) c4]) rfl rfl rfl rfl bA rfl Wj Wz wX #[.int .u8 168,.int .u64 0,.string ⟨#[]⟩,.slice A4 (KS.length+1) c4,.slice A L.length c] Wz ?_);intro w7 Bp H9 _;have hS:=bY.box H9 Wq;have cG:=Ix.grown H9 (sne Wq);have hR:=bF.kept H9 wJ;have bu:=bw.grown bI H9 (fun g' Ho=>by injection Ho with Ho;exact⟨by omega,.inr (.inr Wq)⟩);clear bY Ix bF bw bA H9;(obtain⟨cu,eV⟩:∃K,K=KS++ [ks]:=⟨_,rfl⟩);have iw:cu.length=KS.length+1:=by rw[eV];simp
    have Bk:Hid (∀k∈cu,k.length≤255):=Lib.hid (fun k hk=>by
     rw[eV]at hk;rcases List.mem_append.1 hk with h|h
     ·exact df.out k h
     ·rw[List.mem_singleton.1 h];exact pe)
    rw[←eV]at hS
  have mA:cu.length≤L.length+1:=by omega
  first
  | have qqep:=qqep
    have cM:Hid (∀q0,b1=false→vm=some q0→∃r,yz f ni lj=some r∧false=false∧CN<200∧∃p,xm (yz f) false (CN-(L.length+1)) r.2.2 r.2.1=some p∧q0=(cu++p.1,xs.map (·.1)++([r.1]++p.2.1),p.2.2)):=Lib.hid (fun q0 bL hq=>by
     obtain⟨_,e2,e3,p,e4,e5⟩:=HC.out q0 bL hq;rw[show CN-L.length=(CN-(L.length+1))+1 by omega]at e4;obtain⟨s1,r,s2,p2,s3,s4⟩:=YD e4;refine⟨r,s2,rfl,e2,p2,s3,?_⟩;rw[e5,s4]
     simp)
    clear HC df bK
  | have hX:Box w7 xb 78 #[.int .u8 168,.int .u64 0,.string ⟨#[]⟩,.slice A4 cu.length c4,.slice A L.length c]:=by rw[iw];exact Bp
    simp only[←iw]
    have cM:Hid (∀q0,b1=false→vm=some q0→∃r,yz f ni lj=some r∧bj=false∧CN<200∧∃p,xm (yz f) true (CN-(L.length+1)) r.2.2 r.2.1=some p∧q0=(cu++p.1,xs.map (·.1)++([r.1]++p.2.1),p.2.2)):=Lib.hid (fun q0 bL hq=>by
     obtain⟨_,e2,e3,p,e4,e5⟩:=HC.out q0 bL hq;rw[show CN-L.length=(CN-(L.length+1))+1 by omega]at e4;obtain⟨s1,r,s2,p2,s3,s4⟩:=YD e4;rw[←TV.out]at s1 s2 s4;refine⟨r,s2,s1 rfl,e2,p2,s3,?_⟩;rw[e5,s4,eV]
     simp)
    clear HC Bp TV df bK iw pe eV
  have FP:ni≤200:=by omega
  first
  | have qqep:=qqep
    obtain⟨IG,p8⟩:∃q,q=ja f ni lj false:=⟨_,rfl⟩
    have B4:=bP (d+1) ni F B b lj false _ Wq hR (fun g hg=>⟨(hF g hg).1,Nat.lt_of_lt_of_le (hF g hg).2 bu.size⟩) FP
  | obtain⟨IG,p8⟩:∃q,q=ja f ni lj bj:=⟨_,rfl⟩
    have B4:=bP (d+1) ni F B b lj bj _ Wq hR (fun g hg=>⟨(hF g hg).1,Nat.lt_of_lt_of_le (hF g hg).2 bu.size⟩) FP
  have fG:((d+1:Nat):Int)=(d:Int)+1:=by omega
  rw[←p8,fG]at B4;have rE:=Lib.hid p8;have Fw:=hX.lt;have rN:=bu.size;clear p8 fG;go_wp2_with(with_reducible refine h_A ?_);refine B4.mono ?_;rintro e w8 ⟨x,h,m,ok,l9,b9,rfl,hV,BR,gH,gG,dU,m7,M9⟩;have AY:=Lib.hid M9;have cp:=gH.box hX Wq Wq;have dn:=gH.box cG Wq Wq;have cI:=gH.mns hS Wq Wq;have bT:=bu.trans gH;have h4:∀g,blk A=some g∨blk A4=some g→g<w7.heap.size:=fun g hg=>hg.elim (fun e=>(hS.own.blk_lt e).2) (fun e=>(hS.kown.blk_lt e).2)
  have GI:=gH.size;clear B4 M9 hX cG hS hR bu gH;try clear x0
  unfold vlV;obtain⟨vb,w9,iu,CV,oP,Bh⟩:=zg w8 #[.int .u8 (x.kind:Int),.int .u64 (x.n:Int),.string (str x.s),.slice h.A1 x.keys.length h.c1,.slice h.A2 x.list.length h.c2] 78;go_upto_region 27 with fail;rw[←iu,←CV];have lu:=cp.below Bh;have pN:=dn.below Bh;have iM:=cI.below Bh;have rl:=bT.below bI Bh;have lG:=BR.below Bh;have GD:=Bh.size;have Lu:RV w9 (FN w7.heap.size w9) x h:=(hV.keep (fun g hg=>Bh.block g hg.2) GD).mono (fun g hg=>⟨hg.1,Nat.lt_of_lt_of_le hg.2 GD⟩);clear iu CV cp dn cI bT BR hV Bh
  cases ok
  ·have cN:Hid (∀q,rr=some q→False):=Lib.hid (fun q hq=>by
    obtain⟨bL,q0,e1,e2⟩:=cm.out q hq;obtain⟨r,f1,f2,_⟩:=cM.out q0 bL e1;(have e3:IG=some r:=by rw[rE.out];first|exact f1|(rw[f2];exact f1));have:=(AY.out r e3).2.2.2.1
    cases this)
   clear AY cM cm m7;(first|(have qqep:=qqep;have cg:=iM.rv (k:=169) (B:=w.heap.size) Wq Wq nj Wq NQ)|(have cg:=iM.rv (k:=168) (B:=w.heap.size) Wq Wq nj Wq NQ));rw[←HL.out]at cg;have z0:=lu.c0;have z1:=lu.c1;have z2:=lu.c2;have z3:=lu.c3;have z4:=lu.c4;go_wp2_with(with_reducible refine h_B ?_)
   first
   | have qqep:=qqep
     refine zc (zm (v:=.agg #[.int .u8 169,.int .u64 0,.string ⟨#[]⟩,.slice A4 cu.length c4,.slice A L.length c]) (vs:=[.int .u8 169,.int .u64 0,.string ⟨#[]⟩,.slice A4 cu.length c4,.slice A L.length c]) rfl rfl rfl rfl pN rfl Wj Wz WQ #[.int .u8 169,.int .u64 0,.string ⟨#[]⟩,.slice A4 cu.length c4,.slice A L.length c] Wz ?_)
   | refine zc (zm (v:=.agg #[.int .u8 168,.int .u64 0,.string ⟨#[]⟩,.slice A4 cu.length c4,.slice A L.length c]) (vs:=[.int .u8 168,.int .u64 0,.string ⟨#[]⟩,.slice A4 cu.length c4,.slice A L.length c]) rfl rfl rfl rfl pN rfl Wj Wz WQ #[.int .u8 168,.int .u64 0,.string ⟨#[]⟩,.slice A4 cu.length c4,.slice A L.length c] Wz ?_)
   intro wa EK cL _;have ta:=lG.kept cL wZ;have lN:=rl.grown bI cL (fun g hg=>by injection hg with hg;exact⟨by omega,.inr (.inr Wq)⟩);have OZ:=iM.box cL Wq;(first|(have qqep:=qqep;have uA:=OZ.rv (k:=169) (B:=w.heap.size) Wq Wq nj Wq NQ)|(have uA:=OZ.rv (k:=168) (B:=w.heap.size) Wq Wq nj Wq NQ));rw[←HL.out]at uA;go_wp2_with(with_reducible refine h_A ?_);refine zv rfl EK rfl rfl rfl underlying78 rfl Wj rfl ?_;first|(have qqep:=qqep;exact⟨.mk 169 0 [] cu L,⟨A4,c4,A,c⟩,m,false,l9,b9,rfl,uA,ta,lN,gG,by omega,Mz,fun q hq=>absurd hq (fun hq=>(cN.out q hq))⟩)|(exact⟨.mk 168 0 [] cu L,⟨A4,c4,A,c⟩,m,false,l9,b9,rfl,uA,ta,lN,gG,by omega,Mz,fun q hq=>absurd hq (fun hq=>(cN.out q hq))⟩)
  obtain⟨mn,rfl⟩:∃k:Nat,m=(k:Int):=⟨m.toNat,by have:=m7 rfl;omega⟩
  first
  | have qqep:=qqep
    have rD:Hid (∀q0,b1=false→vm=some q0→b9=false∧CN<200∧L.length+1≤CN∧∃p,xm (yz f) false (CN-(L.length+1)) mn l9=some p∧q0=(cu++p.1,(xs++ [(x,h)]).map (·.1)++p.2.1,p.2.2)):=Lib.hid (fun q0 bL hq=>by
     obtain⟨r,f1,f2,f3,p,f4,f5⟩:=cM.out q0 bL hq;(have e3:IG=some r:=by rw[rE.out];first|exact f1|(rw[f2];exact f1));obtain⟨s1,s2,s3,_,s5⟩:=AY.out r e3;(obtain rfl:mn=r.2.2:=by omega);refine⟨s5,f3,by omega,p,by rw[s2];exact f4,?_⟩;rw[f5,s1]
     simp)
  | have rD:Hid (∀q0,b1=false→vm=some q0→b9=false∧CN<200∧L.length+1≤CN∧∃p,xm (yz f) true (CN-(L.length+1)) mn l9=some p∧q0=(cu++p.1,(xs++ [(x,h)]).map (·.1)++p.2.1,p.2.2)):=Lib.hid (fun q0 bL hq=>by
     obtain⟨r,f1,f2,f3,p,f4,f5⟩:=cM.out q0 bL hq;(have e3:IG=some r:=by rw[rE.out];first|exact f1|(rw[f2];exact f1));obtain⟨s1,s2,s3,_,s5⟩:=AY.out r e3;(obtain rfl:mn=r.2.2:=by omega);refine⟨s5,f3,by omega,p,by rw[s2];exact f4,?_⟩;rw[f5,s1]
     simp)
  clear AY cM m7 rE;have y0:=oP.c0;have y1:=oP.c1;have y2:=oP.c2;have y3:=oP.c3;have y4:=oP.c4;have x4:=lu.c4;have Bu:Own w9 (xb+1) 78 5 A L.length c (rowC vlC xs):=d9.out▸iM.own;go_wp2_with(with_reducible refine h_A ?_);refine zc (jS (W:=w9) vlShape slVl underlying76 rfl rfl rfl rfl rfl (x,h) rfl Bu Wq Wq Wq ?_);intro A9 c9 wA dt fm rM _;have np:=iM.push h4 Fw Lu (by rw[d9.out];exact dt) fm rM;have Bz:∀g',blk A=some g'→xb+1≤g'∧w.heap.size≤g':=fun g' Ho=>by have:=(iM.own.blk_lt Ho).1;omega
  have Sn:=lu.grown fm wj;have Eo:=pN.grown fm wj;have lc:=lG.kept fm uJ;have Fb:=rl.grown bI fm wQ;clear y0 y1 y2 y3 y4 x4 lu lG pN rl iM Bu dt fm rM Bz oP Lu;go_wp2_with(with_reducible refine h_B ?_)
  first
  | have qqep:=qqep
    refine zc (zm (v:=.slice A9 (L.length+1) c9) (vs:=[.slice A9 (L.length+1) c9]) rfl rfl rfl rfl Sn rfl Wj Wz wX #[.int .u8 169,.int .u64 0,.string ⟨#[]⟩,.slice A4 cu.length c4,.slice A9 (L.length+1) c9] Wz ?_)
  | refine zc (zm (v:=.slice A9 (L.length+1) c9) (vs:=[.slice A9 (L.length+1) c9]) rfl rfl rfl rfl Sn rfl Wj Wz wX #[.int .u8 168,.int .u64 0,.string ⟨#[]⟩,.slice A4 cu.length c4,.slice A9 (L.length+1) c9] Wz ?_)
  intro wC P9 gJ _;have uW:=np.box gJ Wq;have ED:=Eo.grown gJ (sne Wq);have Fk:=lc.kept gJ wJ;have DX:=Fb.grown bI gJ (fun g' Ho=>by injection Ho with Ho;exact⟨by omega,.inr (.inr Wq)⟩);go_wp2_with(with_reducible refine h_A ?_);exact⟨⟨L.length+1,mn,cu,A4,c4,A9,c9,xs++ [(x,h)],l9,b9,by omega,by go_num,rfl,by omega,Lib.hid (by rw[List.length_append,d9.out];rfl),mA,Bk,uW,P9,Fk,DX,ED,rD⟩,by simp[RowKit.intOf];omega⟩
 have iE:=Lib.hid fL;clear fL;first|(have qqep:=qqep;have cg:=hS.rv (k:=169) (B:=xb+1) Wq Wq (fun x hx=>by have:=df.out x hx;omega) Wq NQ)|(have cg:=hS.rv (k:=168) (B:=xb+1) Wq Wq (fun x hx=>by have:=df.out x hx;omega) Wq NQ)
 rw[←HL.out]at cg
 first
 | have qqep:=qqep
   have nH:Hid (∀q,rr=some q→(.mk 169 0 [] KS L:Vl)=q.1∧li=q.2.1∧ni=q.2.2∧bi=false):=Lib.hid (fun q hq=>by
    obtain⟨bL,q0,e1,e2⟩:=cm.out q hq;obtain⟨f1,f2,f3,p,f4,f5⟩:=HC.out q0 bL e1
    have bD:CN-L.length=0:=by
     exact Z6e_
    rw[bD,xm]at f4;(injection f4 with f4);subst f4;simp only[List.append_nil]at f5;rw[e2,f5,HL.out]
    exact⟨rfl,rfl,rfl,f1⟩)
 | have nH:Hid (∀q,rr=some q→(.mk 168 0 [] KS L:Vl)=q.1∧li=q.2.1∧ni=q.2.2∧bi=false):=Lib.hid (fun q hq=>by
    obtain⟨bL,q0,e1,e2⟩:=cm.out q hq;obtain⟨f1,f2,f3,p,f4,f5⟩:=HC.out q0 bL e1
    have bD:CN-L.length=0:=by
     exact Z6e_
    rw[bD,xm]at f4;(injection f4 with f4);subst f4;simp only[List.append_nil]at f5;rw[e2,f5,HL.out]
    exact⟨rfl,rfl,rfl,f1⟩)
 clear HC cm;by_cases g1:L.length<CN
 ·have g3:(L.length:Int)<(CN:Int):=by omega
  by_cases g2:L.length<200
  ·have g4:(L.length:Int)<200:=by omega
   cases bi
   ·exact absurd ⟨g1,g2,rfl⟩ iE.out
   go_wp2_with(with_reducible refine h_A ?_);go_meet;first|(have qqep:=qqep;exact⟨.mk 169 0 [] KS L,⟨AK,cK,A,c⟩,ni,li,_,rfl,hX,cg,hR,bu,cG,nF,nH⟩)|(exact⟨.mk 168 0 [] KS L,⟨AK,cK,A,c⟩,ni,li,_,rfl,hX,cg,hR,bu,cG,nF,nH⟩)
  have g4:¬(L.length:Int)<200:=by omega
  go_wp2_with(with_reducible refine h_A ?_);go_meet;first|(have qqep:=qqep;exact⟨.mk 169 0 [] KS L,⟨AK,cK,A,c⟩,ni,li,_,rfl,hX,cg,hR,bu,cG,nF,nH⟩)|(exact⟨.mk 168 0 [] KS L,⟨AK,cK,A,c⟩,ni,li,_,rfl,hX,cg,hR,bu,cG,nF,nH⟩)
 have g3:¬(L.length:Int)<(CN:Int):=by omega
 go_wp2_with(with_reducible refine h_A ?_);go_meet
 first|(have qqep:=qqep;exact⟨.mk 169 0 [] KS L,⟨AK,cK,A,c⟩,ni,li,_,rfl,hX,cg,hR,bu,cG,nF,nH⟩)|(exact⟨.mk 168 0 [] KS L,⟨AK,cK,A,c⟩,ni,li,_,rfl,hX,cg,hR,bu,cG,nF,nH⟩)):p:=h
theorem Z3r_(h:p:=by
 first
 | have qqgr:=qqgr
   subst Ii;obtain rfl:kI=49:=by rw[←fk.out];rfl
   have cm:Hid (∀q,rr=some q→(mnum l1 b1 8).2.2=false∧q=(.mk 49 (mnum l1 b1 8).1 [] [] [],(mnum l1 b1 8).2.1,n-1)):=Lib.hid (fun q hq=>by
    obtain⟨bL,hv⟩:=HV.out q hq;subst bL;rw[if_neg WJ,if_neg WJ,if_pos (.inr rfl)]at hv;split at hv
    ·cases hv
    ·rename_i BN
     injection hv with hv
     exact⟨by simpa using BN,hv.symm⟩)
 | have qqgq:=qqgq
   subst L6;obtain rfl:kI=50:=by rw[←fk.out];rfl
   have cm:Hid (∀q,rr=some q→(mnum l1 b1 8).2.2=false∧q=(.mk 50 (mnum l1 b1 8).1 [] [] [],(mnum l1 b1 8).2.1,n-1)):=Lib.hid (fun q hq=>by
    obtain⟨bL,hv⟩:=HV.out q hq;subst bL;rw[if_neg WJ,if_neg WJ,if_pos (.inl rfl)]at hv;split at hv
    ·cases hv
    ·rename_i BN
     injection hv with hv
     exact⟨by simpa using BN,hv.symm⟩)
 | have qqgp:=qqgp
   subst k2;obtain rfl:kI=2:=by rw[←fk.out];rfl
   have cm:Hid (∀q,rr=some q→(mnum l1 b1 1).2.2=false∧q=(.mk 2 (mnum l1 b1 1).1 [] [] [],(mnum l1 b1 1).2.1,n-1)):=Lib.hid (fun q hq=>by
    obtain⟨bL,hv⟩:=HV.out q hq;subst bL;rw[if_neg WJ,if_pos (.inr rfl)]at hv;split at hv
    ·cases hv
    ·rename_i BN
     injection hv with hv
     exact⟨by simpa using BN,hv.symm⟩)
 | have qqgo:=qqgo
   subst k8;obtain rfl:kI=8:=by rw[←fk.out];rfl
   have cm:Hid (∀q,rr=some q→(mnum l1 b1 1).2.2=false∧q=(.mk 8 (mnum l1 b1 1).1 [] [] [],(mnum l1 b1 1).2.1,n-1)):=Lib.hid (fun q hq=>by
    obtain⟨bL,hv⟩:=HV.out q hq;subst bL;rw[if_neg WJ,if_pos (.inl rfl)]at hv;split at hv
    ·cases hv
    ·rename_i BN
     injection hv with hv
     exact⟨by simpa using BN,hv.symm⟩)
 | have qqgn:=qqgn
   subst ri;obtain rfl:kI=149:=by rw[←fk.out];rfl
   have cm:Hid (∀q,rr=some q→(zT l1 b1 2 4096).2.2=false∧q=(.mk 149 0 (zT l1 b1 2 4096).1 [] [],(zT l1 b1 2 4096).2.1,n-1)):=Lib.hid (fun q hq=>by
    obtain⟨bL,hv⟩:=HV.out q hq;subst bL;rw[if_neg WJ,if_neg WJ,if_neg WJ,if_pos rfl]at hv;split at hv
    ·cases hv
    ·rename_i BN
     injection hv with hv
     exact⟨by simpa using BN,hv.symm⟩)
 | subst rG
   obtain rfl:kI=160:=by rw[←fk.out];rfl
   have cm:Hid (∀q,rr=some q→(zT l1 b1 4 4096).2.2=false∧q=(.mk 160 0 (zT l1 b1 4 4096).1 [] [],(zT l1 b1 4 4096).2.1,n-1)):=Lib.hid (fun q hq=>by
    obtain⟨bL,hv⟩:=HV.out q hq;subst bL;rw[if_neg WJ,if_neg WJ,if_neg WJ,if_neg WJ,if_pos rfl]at hv;split at hv
    ·cases hv
    ·rename_i BN
     injection hv with hv
     exact⟨by simpa using BN,hv.symm⟩)
 clear HV
 first
 | have qqgr:=qqgr
   have h2:=yG hR 8 Wq Wq;have hlt:=xg l1 b1 8
   obtain⟨T,hT⟩:∃t,t=mnum l1 b1 8:=⟨_,rfl⟩
 | have qqgq:=qqgq
   have h2:=yG hR 8 Wq Wq;have hlt:=xg l1 b1 8
   obtain⟨T,hT⟩:∃t,t=mnum l1 b1 8:=⟨_,rfl⟩
 | have qqgp:=qqgp
   have h2:=yG hR 1 Wq Wq;have hlt:=xg l1 b1 1
   obtain⟨T,hT⟩:∃t,t=mnum l1 b1 1:=⟨_,rfl⟩
 | have qqgo:=qqgo
   have h2:=yG hR 1 Wq Wq;have hlt:=xg l1 b1 1
   obtain⟨T,hT⟩:∃t,t=mnum l1 b1 1:=⟨_,rfl⟩
 | have qqgn:=qqgn
   have h2:=je hR 2 4096 Wq Wq Wq Wq;have hlt:=yY l1 b1 2 4096;rw[show((4096:Nat):Int)=4096 from rfl]at hlt
   obtain⟨T,hT⟩:∃t,t=zT l1 b1 2 4096:=⟨_,rfl⟩
 | have h2:=je hR 4 4096 Wq Wq Wq Wq
   have hlt:=yY l1 b1 4 4096;rw[show((4096:Nat):Int)=4096 from rfl]at hlt;obtain⟨T,hT⟩:∃t,t=zT l1 b1 4 4096:=⟨_,rfl⟩
 rw[←hT]at h2 hlt cm;obtain⟨x,l2,b2⟩:=T;simp only at h2 hlt;clear hT;go_wp2_with(with_reducible refine h_B ?_);refine h2.mono ?_;rintro e w6 ⟨rfl,Bw,Hm⟩;have Hk:=hX.grown Hm (sne Wq);have dA:=eG.grown Hm (sne Wq);have cP:=bu.grown bI Hm uX;clear h2 hX hR eG bu Hm;try simp only at Bw
 go_wp2_with(with_reducible refine h_B ?_)
 first
 | have qqgr:=qqgr
   refine zc (zm (v:=.int .u64 (x:Int)) (vs:=[.int .u64 (x:Int)]) rfl rfl rfl rfl Hk rfl Wj Wz wX #[.int .u8 49,.int .u64 (x:Int),.string ⟨#[]⟩,.slice none 0 0,.slice none 0 0] Wz ?_)
 | have qqgq:=qqgq
   refine zc (zm (v:=.int .u64 (x:Int)) (vs:=[.int .u64 (x:Int)]) rfl rfl rfl rfl Hk rfl Wj Wz wX #[.int .u8 50,.int .u64 (x:Int),.string ⟨#[]⟩,.slice none 0 0,.slice none 0 0] Wz ?_)
 | have qqgp:=qqgp
   refine zc (zm (v:=.int .u64 (x:Int)) (vs:=[.int .u64 (x:Int)]) rfl rfl rfl rfl Hk rfl Wj Wz wX #[.int .u8 2,.int .u64 (x:Int),.string ⟨#[]⟩,.slice none 0 0,.slice none 0 0] Wz ?_)
 | have qqgo:=qqgo
   refine zc (zm (v:=.int .u64 (x:Int)) (vs:=[.int .u64 (x:Int)]) rfl rfl rfl rfl Hk rfl Wj Wz wX #[.int .u8 8,.int .u64 (x:Int),.string ⟨#[]⟩,.slice none 0 0,.slice none 0 0] Wz ?_)
 | have qqgn:=qqgn
   refine zc (zm (v:=.string (str x)) (vs:=[.string (str x)]) rfl rfl rfl rfl Hk rfl Wj Wz wX #[.int .u8 149,.int .u64 0,.string (str x),.slice none 0 0,.slice none 0 0] Wz ?_)
 | refine zc (zm (v:=.string (str x)) (vs:=[.string (str x)]) rfl rfl rfl rfl Hk rfl Wj Wz wX #[.int .u8 160,.int .u64 0,.string (str x),.slice none 0 0,.slice none 0 0] Wz ?_)
 intro w7 Bp H5 _;have BJ:=Bw.kept H5 wZ;have lS:=dA.grown H5 (sne Wq);have BC:=cP.grown bI H5 (fun g hg=>by injection hg with hg;exact⟨by omega,.inr (.inr Wq)⟩);go_wp2_with(with_reducible refine h_A ?_);go_meet
 first
 | have qqgr:=qqgr
   exact⟨.mk 49 x [] [] [],⟨none,0,none,0⟩,n-1,l2,b2,MZ,Bp,RV.leaf _ _ _ _ _ Wq Wq Wz,BJ,BC,lS,by omega,Lib.hid (fun q hq=>by
    obtain⟨e1,e2⟩:=cm.out q hq;rw[e2]
    exact⟨rfl,rfl,rfl,e1⟩)⟩
 | have qqgq:=qqgq
   exact⟨.mk 50 x [] [] [],⟨none,0,none,0⟩,n-1,l2,b2,MZ,Bp,RV.leaf _ _ _ _ _ Wq Wq Wz,BJ,BC,lS,by omega,Lib.hid (fun q hq=>by
    obtain⟨e1,e2⟩:=cm.out q hq;rw[e2]
    exact⟨rfl,rfl,rfl,e1⟩)⟩
 | have qqgp:=qqgp
   exact⟨.mk 2 x [] [] [],⟨none,0,none,0⟩,n-1,l2,b2,MZ,Bp,RV.leaf _ _ _ _ _ Wq Wq Wz,BJ,BC,lS,by omega,Lib.hid (fun q hq=>by
    obtain⟨e1,e2⟩:=cm.out q hq;rw[e2]
    exact⟨rfl,rfl,rfl,e1⟩)⟩
 | have qqgo:=qqgo
   exact⟨.mk 8 x [] [] [],⟨none,0,none,0⟩,n-1,l2,b2,MZ,Bp,RV.leaf _ _ _ _ _ Wq Wq Wz,BJ,BC,lS,by omega,Lib.hid (fun q hq=>by
    obtain⟨e1,e2⟩:=cm.out q hq;rw[e2]
    exact⟨rfl,rfl,rfl,e1⟩)⟩
 | have qqgn:=qqgn
   exact⟨.mk 149 0 x [] [],⟨none,0,none,0⟩,n-1,l2,b2,MZ,Bp,RV.leaf _ _ _ _ _ Wq Wq Wq,BJ,BC,lS,by omega,Lib.hid (fun q hq=>by
    obtain⟨e1,e2⟩:=cm.out q hq;rw[e2]
    exact⟨rfl,rfl,rfl,e1⟩)⟩
 | exact⟨.mk 160 0 x [] [],⟨none,0,none,0⟩,n-1,l2,b2,MZ,Bp,RV.leaf _ _ _ _ _ Wq Wq Wq,BJ,BC,lS,by omega,Lib.hid (fun q hq=>by
    obtain⟨e1,e2⟩:=cm.out q hq;rw[e2]
    exact⟨rfl,rfl,rfl,e1⟩)⟩):p:=h
theorem Z4a_(h:p:=by
 intro wS He;have y0:=He.1.cell (j:=0) rfl;have y1:=He.1.cell (j:=1) rfl;have y2:=He.1.cell (j:=2) rfl;have y3:=He.1.cell (j:=3) rfl;have y4:=He.1.cell (j:=4) rfl;go_simp;(with_reducible rfl)):p:=h
theorem Z4g_(h:p:=by
 clear h0;go_wp2_with(with_reducible refine h_B ?_);refine zc (zm (v:=.agg #[.int .u8 (k:Int),.int .u64 0,.string ⟨#[]⟩,.slice none 0 0,.slice none 0 0]) (vs:=[.int .u8 (k:Int),.int .u64 0,.string ⟨#[]⟩,.slice none 0 0,.slice none 0 0]) rfl rfl rfl rfl eG rfl Wj Wz uZ #[.int .u8 (k:Int),.int .u64 0,.string ⟨#[]⟩,.slice none 0 0,.slice none 0 0] Wz ?_);intro w8 dn H5 _;have BR:=hR.kept H5 wZ;have bT:=bu.grown bI H5 (fun g hg=>by injection hg with hg;exact⟨by omega,.inr (.inr Wq)⟩);go_wp2_with(with_reducible refine h_A ?_);refine zv rfl dn rfl rfl rfl underlying78 rfl Wj rfl ?_;rw[B2.out]
 exact⟨.mk k 0 [] [] [],⟨none,0,none,0⟩,(n:Int)-1,false,l1,b1,rfl,RV.leaf _ _ _ _ _ Wq Wq Wz,BR,bT,by omega,by omega,Mz,fun q hq=>by cases hq⟩):p:=h
theorem Z2_(h:p:=by
 intro d n F B b l bad w AV hr hF hn;have hb:=hr.inF;have dP:=hF b hb;have gc:=dP.2;have bI:B≤w.heap.size:=by omega
 first|(have qq2:=qq2;obtain⟨rr,B1⟩:∃q,q=ja 0 n l bad:=⟨_,rfl⟩)|(obtain⟨rr,B1⟩:∃q,q=ja (f+1) n l bad:=⟨_,rfl⟩)
 rw[←B1];have ng:=Lib.hid B1;clear B1;have dw:=Ze l bad;obtain⟨q1,eQ⟩:∃q,q=mnum l bad 1:=⟨_,rfl⟩
 rw[←eQ]at dw;obtain⟨k,l1,b1⟩:=q1;simp only at dw;have r6:=Lib.hid eQ;clear eQ;obtain⟨rb,w1,da,cg,cG,Ha⟩:=zg w #[.int .u8 0,.int .u64 0,.string ⟨#[]⟩,.slice none 0 0,.slice none 0 0] 78;have dT:=hr.below Ha;have lx:=(KP.refl B b b w).below bI Ha;go_enter func165,ntmps165;go_upto_region 1 with fail;rw[←da,←cg];have nO:w.heap.size≤rb:=by omega
 clear da cg hr Ha;have h1:=yG dT 1 Wq Wq;rw[←r6.out]at h1;go_wp2_with(with_reducible refine h_A ?_);refine h1.mono ?_;rintro e w3 ⟨rfl,cl,H7⟩;have eM:=cG.grown H7 (sne Wq);have cy:=lx.grown bI H7 uX;clear h1 dT lx cG H7;try simp only at cl
 obtain⟨xb,w4,Hg,Hi,hX,Hn⟩:=zg w3 #[.int .u8 (k:Int),.int .u64 0,.string ⟨#[]⟩,.slice none 0 0,.slice none 0 0] 78;have hR:=cl.below Hn;have pU:=eM.lt;have eG:=eM.below Hn;have bu:=cy.below bI Hn;have aH:rb<xb:=by omega
 have sw:w.heap.size≤xb:=by omega
 go_upto_region 3 with fail;rw[←Hg,←Hi];clear Hg Hi Hn eM cl cy pU
 first
 | have qq2:=qq2
   have B2:Hid (rr=none):=Lib.hid (by rw[ng.out,jv _ _ _ _ (.inr (.inr rfl))]);(obtain rfl:d=7:=by omega);have c0:=hX.c0;have c1:=hX.c1;have c2:=hX.c2;have c3:=hX.c3
   have c4:=hX.c4
 | have gd:(d:Int)≤6:=by omega
 by_cases h0:n=0
 ·first|done|(have qq2:=qq2)|(have B2:Hid (rr=none):=Lib.hid (by rw[ng.out,jv _ _ _ _ (.inl h0)]))
  have g0:(n:Int)-1<0:=by omega
  first
  | done
  | have qq2:=qq2
  | have z0:=hX.c0
    have z1:=hX.c1;have z2:=hX.c2;have z3:=hX.c3;have z4:=hX.c4
  exact Z4g_
 first
 | have qq2:=qq2
   ·have g0:¬(n:Int)-1<0:=by omega
    exact Z4g_
 | have g0:¬(n:Int)-1<0:=by omega
   have eK:((n:Int)-1)=((n-1:Nat):Int):=by omega
   have HV:Hid (∀q,rr=some q→b1=false∧(if k=240 then some ((.mk 240 0 [] [] []:Vl),l1,n-1)
    else if k=8∨k=2 then(if(mnum l1 b1 1).2.2=true then none else some (.mk k (mnum l1 b1 1).1 [] [] [],(mnum l1 b1 1).2.1,n-1))
    else if k=50∨k=49 then(if(mnum l1 b1 8).2.2=true then none else some (.mk k (mnum l1 b1 8).1 [] [] [],(mnum l1 b1 8).2.1,n-1))
    else if k=149 then(if(zT l1 b1 2 4096).2.2=true then none else some (.mk 149 0 (zT l1 b1 2 4096).1 [] [],(zT l1 b1 2 4096).2.1,n-1))
    else if k=160 then(if(zT l1 b1 4 4096).2.2=true then none else some (.mk 160 0 (zT l1 b1 4 4096).1 [] [],(zT l1 b1 4 4096).2.1,n-1))
    else if k=168∨k=169 then(j4 (yz f) (decide (k=168)) (n-1) l1).map (fun q=>(.mk k 0 [] q.1 q.2.1,q.2.2))else none)=some q):=Lib.hid (fun q hq=>by
    have e:=ng.out.symm.trans hq;obtain⟨e1,e2⟩:=QM e r6.out;subst e1 e2;refine⟨rfl,?_⟩;have e3:yz (f+1) n l=some q:=e;rw[Jq r6.out h0]at e3
    exact e3)
   clear ng r6;have x0:=hX.c0;generalize dq:(k:Int)=kI at*;have fk:=Lib.hid dq;clear dq;go_upto_block 0 with fail;clear x0;go_cut [2,10,11,12,13,14,15]from 32 to 107 (fun s2 _ _ _ _ _ _ wx=>RMid F B b n rb xb w rr s2 wx)
   case first=>
    by_cases k8:k=8
    ·have qqgo:=();exact Z3r_
    by_cases k2:k=2
    ·have qqgp:=();exact Z3r_
    by_cases L6:k=50
    ·have qqgq:=();exact Z3r_
    by_cases Ii:k=49
    ·have qqgr:=();exact Z3r_
    by_cases ri:k=149
    ·have qqgn:=();exact Z3r_
    by_cases rG:k=160
    ·exact Z3r_
    by_cases ua:k=168
    ·exact Z3k_
    by_cases u5:k=169
    ·have qqep:=();exact Z3k_
    have nH:Hid (∀q,rr=some q→(.mk k 0 [] [] []:Vl)=q.1∧l1=q.2.1∧n-1=q.2.2∧b1=false):=Lib.hid (fun q hq=>by
     obtain⟨bL,hv⟩:=HV.out q hq;by_cases rg:k=240
     ·rw[if_pos rg]at hv;(injection hv with hv);subst hv rg;exact⟨rfl,rfl,rfl,bL⟩
     ·rw[if_neg rg,if_neg Wq,if_neg Wq,if_neg ri,if_neg rG,if_neg Wq]at hv
      cases hv)
    (have j8:(kI==8)=false:=by rw[←fk.out];simp;omega);(have j2:(kI==2)=false:=by rw[←fk.out];simp;omega);(have j49:(kI==49)=false:=by rw[←fk.out];simp;omega);(have j50:(kI==50)=false:=by rw[←fk.out];simp;omega);(have hii:(kI==149)=false:=by rw[←fk.out];simp;omega);(have WV:(kI==160)=false:=by rw[←fk.out];simp;omega);(have av:(kI==168)=false:=by rw[←fk.out];simp;omega);(have hh1:(kI==169)=false:=by rw[←fk.out];simp;omega);clear k8 k2 Ii L6 ri rG ua u5;have Bp:=hX;rw[←fk.out]at Bp;go_wp2_with(with_reducible refine h_A ?_);go_meet;exact⟨.mk k 0 [] [] [],⟨none,0,none,0⟩,n-1,l1,b1,MZ,Bp,RV.leaf _ _ _ _ _ Wq Wq Wz,hR,bu,eG,by omega,nH⟩
   case rest=>
    obtain⟨x,h,m,l2,b2,rfl,hX,hV,hR,bu,cG,mK,HX⟩:=hcut
    have Bs:wc.cell? ⟨b,1,none⟩=some (.bool b2):=by
     obtain⟨A',n',c',e0,e1,_⟩:=hR;exact e1
    unfold vlV at hX;clear HV fk;go_upto_region 31 with fail;refine zt (fun W:World=>Box W xb 78 #[.int .u8 (x.kind:Int),.int .u64 (x.n:Int),.string (str x.s),.slice h.A1 x.keys.length h.c1,.slice h.A2 x.list.length h.c2]∧W.cell? ⟨b,1,none⟩=some (.bool b2)) Wj ?_;have hS:Box wc.drew xb 78 #[.int .u8 (x.kind:Int),.int .u64 (x.n:Int),.string (str x.s),.slice h.A1 x.keys.length h.c1,.slice h.A2 x.list.length h.c2]∧wc.drew.cell? ⟨b,1,none⟩=some (.bool b2):=⟨hX,Bs⟩;have hV:RV wc.drew (FN (xb+1) wc.drew) x h:=hV.keep (fun g hg=>rfl) (Nat.le_refl _);have hR:=hR.drew;have bu:=bu.drew;have cG:Box wc.drew rb 78 #[.int .u8 0,.int .u64 0,.string ⟨#[]⟩,.slice none 0 0,.slice none 0 0]:=cG;clear hX Bs;generalize wc.drew=wd at*;refine ze 0 (v:=?_) rfl Wj Wj Wj hS rfl ?_ ?_;rotate_left
    ·exact Z4a_
    simp only[List.getElem_toArray,List.getElem_cons_zero,Act.put,List.setIfInBounds_toArray,List.set_cons_zero,List.set_cons_succ];refine rg_t 1 hS ?_;simp only[g_S];refine rg_t 2 hS ?_;simp only[g_S];refine rg_t 3 hS ?_;simp only[g_S];refine rg_t 4 hS ?_;simp only[g_S];refine ze 5 (v:=?_) rfl Wj Wj Wj hS rfl ?_ ?_;rotate_left
    ·intro wS He;have y0:=He.2;go_simp;(with_reducible rfl)
    simp only[g_S];refine rg_t 6 hS ?_;simp only[g_S];refine zj 7 rfl Wj rfl (fun K hK=>?_);refine zK (g:=rb) (j:=0) (v:=.agg #[.int .u8 (x.kind:Int),.int .u64 (x.n:Int),.string (str x.s),.slice h.A1 x.keys.length h.c1,.slice h.A2 x.list.length h.c2]) (vs:=[.int .u8 (x.kind:Int),.int .u64 (x.n:Int),.string (str x.s),.slice h.A1 x.keys.length h.c1,.slice h.A2 x.list.length h.c2]) rfl rfl rfl cG rfl Wj Wz (zau x h) #[.int .u8 (x.kind:Int),.int .u64 (x.n:Int),.string (str x.s),.slice h.A1 x.keys.length h.c1,.slice h.A2 x.list.length h.c2] Wz ?_;intro we PX cf _;have BI:Box we xb 78 #[.int .u8 (x.kind:Int),.int .u64 (x.n:Int),.string (str x.s),.slice h.A1 x.keys.length h.c1,.slice h.A2 x.list.length h.c2]∧we.cell? ⟨b,1,none⟩=some (.bool b2):=⟨hS.1.grown cf (sne Wq),cf.cell hS.2 (by intro e;have e2:b=rb:=(by simpa using e);omega)⟩;have iv:=hR.kept cf wZ;have Rl:=bu.grown bI cf (fun g hg=>by injection hg with hg;exact⟨by omega,.inr (.inr Wq)⟩);refine hK _ _ BI ?_;clear hK K;(try simp only[g_S]);refine rg_t 8 BI ?_;simp only[g_S];refine rg_t 9 BI ?_;simp only[g_S];refine zD Wj ?_;go_wp2_with(with_reducible refine h_A ?_);refine zv rfl PX rfl rfl rfl underlying78 rfl Wj rfl ?_;refine⟨x,h,(m:Int),!b2,l2,b2,rfl,?_,iv,Rl,by omega,by omega,(fun _=>by omega),fun q hq=>?_⟩
    ·exact(hV.keep (fun g hg=>cf.block g hg.2 Hz) cf.size).mono (fun g hg=>⟨by have:=hg.1;omega,Nat.lt_of_lt_of_le hg.2 cf.size⟩)
    obtain⟨e1,e2,e3,e4⟩:=HX.out q hq
    exact⟨e1,e2,by rw[e3],by rw[e4];rfl,e4⟩):p:=h
theorem Z6p_(h:p:=by
 rintro e w9 ⟨rfl,rfl⟩;go_wp2_with(with_reducible refine h_A ?_);rw[B2.out]
 exact⟨rfl,rfl,bu⟩):p:=h
theorem Z4x_(h:p:=by
 go_wp2_with(with_reducible refine h_A ?_);refine BX.mono ?_
 exact Z6p_):p:=h
theorem Z3p_(h:p:=by
 first
 | have qqfp:=qqfp
   subst Ii;obtain rfl:kI=49:=by rw[←fk.out];rfl
   have cm:Hid (rr=if(mnum l1 false 8).2.2=true then none else some (.mk 49 (mnum l1 false 8).1 [] [] [],(mnum l1 false 8).2.1,n-1)):=Lib.hid (by rw[HV.out,if_neg WJ,if_neg WJ,if_pos (.inr rfl)])
 | have qqfo:=qqfo
   subst L6;obtain rfl:kI=50:=by rw[←fk.out];rfl
   have cm:Hid (rr=if(mnum l1 false 8).2.2=true then none else some (.mk 50 (mnum l1 false 8).1 [] [] [],(mnum l1 false 8).2.1,n-1)):=Lib.hid (by rw[HV.out,if_neg WJ,if_neg WJ,if_pos (.inl rfl)])
 | have qqfn:=qqfn
   subst k2;obtain rfl:kI=2:=by rw[←fk.out];rfl
   have cm:Hid (rr=if(mnum l1 false 1).2.2=true then none else some (.mk 2 (mnum l1 false 1).1 [] [] [],(mnum l1 false 1).2.1,n-1)):=Lib.hid (by rw[HV.out,if_neg WJ,if_pos (.inr rfl)])
 | have qqfm:=qqfm
   subst k8;obtain rfl:kI=8:=by rw[←fk.out];rfl
   have cm:Hid (rr=if(mnum l1 false 1).2.2=true then none else some (.mk 8 (mnum l1 false 1).1 [] [] [],(mnum l1 false 1).2.1,n-1)):=Lib.hid (by rw[HV.out,if_neg WJ,if_pos (.inl rfl)])
 | have qqfl:=qqfl
   subst ri;obtain rfl:kI=149:=by rw[←fk.out];rfl
   have cm:Hid (rr=if(zT l1 false 2 4096).2.2=true then none else some (.mk 149 0 (zT l1 false 2 4096).1 [] [],(zT l1 false 2 4096).2.1,n-1)):=Lib.hid (by rw[HV.out,if_neg WJ,if_neg WJ,if_neg WJ,if_pos rfl])
 | subst rG
   (obtain rfl:kI=160:=by rw[←fk.out];rfl);have cm:Hid (rr=if(zT l1 false 4 4096).2.2=true then none else some (.mk 160 0 (zT l1 false 4 4096).1 [] [],(zT l1 false 4 4096).2.1,n-1)):=Lib.hid (by rw[HV.out,if_neg WJ,if_neg WJ,if_neg WJ,if_neg WJ,if_pos rfl])
 clear HV;have x0:=hX.c0;have c0:=hP.c0
 first
 | have qqfp:=qqfp
   have h2:=yn hR 8 Wq Wq;have hlt:=xg l1 false 8
   obtain⟨T,hT⟩:∃t,t=mnum l1 false 8:=⟨_,rfl⟩
 | have qqfo:=qqfo
   have h2:=yn hR 8 Wq Wq;have hlt:=xg l1 false 8
   obtain⟨T,hT⟩:∃t,t=mnum l1 false 8:=⟨_,rfl⟩
 | have qqfn:=qqfn
   have h2:=yn hR 1 Wq Wq;have hlt:=xg l1 false 1
   obtain⟨T,hT⟩:∃t,t=mnum l1 false 1:=⟨_,rfl⟩
 | have qqfm:=qqfm
   have h2:=yn hR 1 Wq Wq;have hlt:=xg l1 false 1
   obtain⟨T,hT⟩:∃t,t=mnum l1 false 1:=⟨_,rfl⟩
 | have qqfl:=qqfl
   have h2:=qF hR 2 4096 Wq Wq Wq Wq;have hlt:=yY l1 false 2 4096;rw[show((4096:Nat):Int)=4096 from rfl]at hlt
   obtain⟨T,hT⟩:∃t,t=zT l1 false 2 4096:=⟨_,rfl⟩
 | have h2:=qF hR 4 4096 Wq Wq Wq Wq
   have hlt:=yY l1 false 4 4096;rw[show((4096:Nat):Int)=4096 from rfl]at hlt;obtain⟨T,hT⟩:∃t,t=zT l1 false 4 4096:=⟨_,rfl⟩
 rw[←hT]at h2 hlt cm;obtain⟨x,l2,b2⟩:=T;simp only at h2 hlt;clear hT;go_wp2_with(with_reducible refine h_B ?_);refine h2.mono ?_;rintro e w6 ⟨rfl,Bw,Hm⟩;replace hR:=Bw;replace hP:=hP.grown Hm (sne Wq);replace hX:=hX.grown Hm (sne Wq);replace cG:=cG.grown Hm (sne Wq);replace bu:=bu.grown bI Hm nJ;clear Bw Hm c0 x0;clear h2;go_wp2_with(with_reducible refine h_B ?_)
 first
 | have qqfp:=qqfp
   refine zc (zm (v:=.int .u64 (x:Int)) (vs:=[.int .u64 (x:Int)]) rfl rfl rfl rfl hX rfl Wj Wz wX #[.int .u8 49,.int .u64 (x:Int),.string ⟨#[]⟩,.slice none 0 0,.slice none 0 0] Wz ?_)
 | have qqfo:=qqfo
   refine zc (zm (v:=.int .u64 (x:Int)) (vs:=[.int .u64 (x:Int)]) rfl rfl rfl rfl hX rfl Wj Wz wX #[.int .u8 50,.int .u64 (x:Int),.string ⟨#[]⟩,.slice none 0 0,.slice none 0 0] Wz ?_)
 | have qqfn:=qqfn
   refine zc (zm (v:=.int .u64 (x:Int)) (vs:=[.int .u64 (x:Int)]) rfl rfl rfl rfl hX rfl Wj Wz wX #[.int .u8 2,.int .u64 (x:Int),.string ⟨#[]⟩,.slice none 0 0,.slice none 0 0] Wz ?_)
 | have qqfm:=qqfm
   refine zc (zm (v:=.int .u64 (x:Int)) (vs:=[.int .u64 (x:Int)]) rfl rfl rfl rfl hX rfl Wj Wz wX #[.int .u8 8,.int .u64 (x:Int),.string ⟨#[]⟩,.slice none 0 0,.slice none 0 0] Wz ?_)
 | have qqfl:=qqfl
   refine zc (zm (v:=.string (str x)) (vs:=[.string (str x)]) rfl rfl rfl rfl hX rfl Wj Wz wX #[.int .u8 149,.int .u64 0,.string (str x),.slice none 0 0,.slice none 0 0] Wz ?_)
 | refine zc (zm (v:=.string (str x)) (vs:=[.string (str x)]) rfl rfl rfl rfl hX rfl Wj Wz wX #[.int .u8 160,.int .u64 0,.string (str x),.slice none 0 0,.slice none 0 0] Wz ?_)
 intro w7 Bp H5 _;replace hR:=hR.kept H5 wZ;replace hP:=hP.grown H5 (sne Wq);replace cG:=cG.grown H5 (sne Wq);replace bu:=bu.grown bI H5 (fun g hg=>by injection hg with hg;exact⟨by omega,.inr (.inr Wq)⟩);clear H5;clear hX;have hX:=Bp;clear Bp
 cases b2
 ·first
  | have qqfp:=qqfp
    have B2:=Lib.hid (show rr=some (.mk 49 x [] [] [],l2,n-1) by rw[cm.out];rfl)
  | have qqfo:=qqfo
    have B2:=Lib.hid (show rr=some (.mk 50 x [] [] [],l2,n-1) by rw[cm.out];rfl)
  | have qqfn:=qqfn
    have B2:=Lib.hid (show rr=some (.mk 2 x [] [] [],l2,n-1) by rw[cm.out];rfl)
  | have qqfm:=qqfm
    have B2:=Lib.hid (show rr=some (.mk 8 x [] [] [],l2,n-1) by rw[cm.out];rfl)
  | have qqfl:=qqfl
    have B2:=Lib.hid (show rr=some (.mk 149 0 x [] [],l2,n-1) by rw[cm.out];rfl)
  | have B2:=Lib.hid (show rr=some (.mk 160 0 x [] [],l2,n-1) by rw[cm.out];rfl)
  clear cm;have BX:=xK hR hP;have x0:=hX.c0;go_wp2_with(with_reducible refine h_A ?_);refine BX.mono ?_;rintro e w9 ⟨rfl,rfl⟩;clear BX x0;have x0:=hX.c0;have x1:=hX.c1;have x2:=hX.c2;have x3:=hX.c3;have x4:=hX.c4;go_wp2_with(with_reducible refine h_B ?_)
  first
  | have qqfp:=qqfp
    refine zc (zm (v:=.agg #[.int .u8 49,.int .u64 (x:Int),.string ⟨#[]⟩,.slice none 0 0,.slice none 0 0]) (vs:=[.int .u8 49,.int .u64 (x:Int),.string ⟨#[]⟩,.slice none 0 0,.slice none 0 0]) rfl rfl rfl rfl cG rfl Wj Wz WQ #[.int .u8 49,.int .u64 (x:Int),.string ⟨#[]⟩,.slice none 0 0,.slice none 0 0] Wz ?_)
  | have qqfo:=qqfo
    refine zc (zm (v:=.agg #[.int .u8 50,.int .u64 (x:Int),.string ⟨#[]⟩,.slice none 0 0,.slice none 0 0]) (vs:=[.int .u8 50,.int .u64 (x:Int),.string ⟨#[]⟩,.slice none 0 0,.slice none 0 0]) rfl rfl rfl rfl cG rfl Wj Wz WQ #[.int .u8 50,.int .u64 (x:Int),.string ⟨#[]⟩,.slice none 0 0,.slice none 0 0] Wz ?_)
  | have qqfn:=qqfn
    refine zc (zm (v:=.agg #[.int .u8 2,.int .u64 (x:Int),.string ⟨#[]⟩,.slice none 0 0,.slice none 0 0]) (vs:=[.int .u8 2,.int .u64 (x:Int),.string ⟨#[]⟩,.slice none 0 0,.slice none 0 0]) rfl rfl rfl rfl cG rfl Wj Wz WQ #[.int .u8 2,.int .u64 (x:Int),.string ⟨#[]⟩,.slice none 0 0,.slice none 0 0] Wz ?_)
  | have qqfm:=qqfm
    refine zc (zm (v:=.agg #[.int .u8 8,.int .u64 (x:Int),.string ⟨#[]⟩,.slice none 0 0,.slice none 0 0]) (vs:=[.int .u8 8,.int .u64 (x:Int),.string ⟨#[]⟩,.slice none 0 0,.slice none 0 0]) rfl rfl rfl rfl cG rfl Wj Wz WQ #[.int .u8 8,.int .u64 (x:Int),.string ⟨#[]⟩,.slice none 0 0,.slice none 0 0] Wz ?_)
  | have qqfl:=qqfl
    refine zc (zm (v:=.agg #[.int .u8 149,.int .u64 0,.string (str x),.slice none 0 0,.slice none 0 0]) (vs:=[.int .u8 149,.int .u64 0,.string (str x),.slice none 0 0,.slice none 0 0]) rfl rfl rfl rfl cG rfl Wj Wz WQ #[.int .u8 149,.int .u64 0,.string (str x),.slice none 0 0,.slice none 0 0] Wz ?_)
  | refine zc (zm (v:=.agg #[.int .u8 160,.int .u64 0,.string (str x),.slice none 0 0,.slice none 0 0]) (vs:=[.int .u8 160,.int .u64 0,.string (str x),.slice none 0 0,.slice none 0 0]) rfl rfl rfl rfl cG rfl Wj Wz WQ #[.int .u8 160,.int .u64 0,.string (str x),.slice none 0 0,.slice none 0 0] Wz ?_)
  intro w8 dn H5 _;have BR:=hR.kept H5 wZ;have dl:=hP.grown H5 (sne Wq);have bT:=bu.grown bI H5 (fun g hg=>by injection hg with hg;exact⟨by omega,.inr (.inr Wq)⟩);go_wp2_with(with_reducible refine h_A ?_);refine xG rfl dn rfl underlying78 rfl Wj rfl ?_;rw[B2.out]
  first
  | have qqfp:=qqfp
    exact⟨⟨none,0,none,0⟩,rfl,RV.leaf _ _ _ _ _ Wq Wq Wz,BR,dl,bT⟩
  | have qqfo:=qqfo
    exact⟨⟨none,0,none,0⟩,rfl,RV.leaf _ _ _ _ _ Wq Wq Wz,BR,dl,bT⟩
  | have qqfn:=qqfn
    exact⟨⟨none,0,none,0⟩,rfl,RV.leaf _ _ _ _ _ Wq Wq Wz,BR,dl,bT⟩
  | have qqfm:=qqfm
    exact⟨⟨none,0,none,0⟩,rfl,RV.leaf _ _ _ _ _ Wq Wq Wz,BR,dl,bT⟩
  | exact⟨⟨none,0,none,0⟩,rfl,RV.leaf _ _ _ _ _ Wq Wq Wq,BR,dl,bT⟩
 have B2:=Lib.hid (show rr=none by rw[cm.out];rfl);clear cm;have BX:=xR hR hP true (.inr rfl)
 exact Z4x_):p:=h
theorem Z3t_(h:p:=by
 obtain⟨KS,L,lq,nq⟩:=q;first|(have qqgu:=qqgu;have B2:=Lib.hid (show rr=some (.mk 169 0 [] KS L,lq,nq) by rw[cm.out];rfl))|(have B2:=Lib.hid (show rr=some (.mk 168 0 [] KS L,lq,nq) by rw[cm.out];rfl))
 clear cm;go_wp2_with(with_reducible refine h_A ?_);refine mK.mono ?_;rintro e w7 ⟨AK,cK,A,c,xs,rfl,tp,hS,Bw,mf,Hk,dQ,df,uf,pa⟩;simp only at tp hS Bw mf Hk df uf pa;have dA:=dQ.box eM Wq Wq;clear x0 mK hX hR hP cG bu;have BX:=xK Bw mf;go_wp2_with(with_reducible refine h_A ?_);refine BX.mono ?_;rintro e w9 ⟨rfl,rfl⟩;clear BX;have hR:=Bw;have hP:=mf;have cG:=dA;have bu:=cy.trans dQ;have x0:=Hk.c0;have x1:=Hk.c1;have x2:=Hk.c2;have x3:=Hk.c3;have x4:=Hk.c4;go_wp2_with(with_reducible refine h_B ?_)
 first
 | have qqgu:=qqgu
   refine zc (zm (v:=.agg #[.int .u8 169,.int .u64 0,.string ⟨#[]⟩,.slice AK KS.length cK,.slice A L.length c]) (vs:=[.int .u8 169,.int .u64 0,.string ⟨#[]⟩,.slice AK KS.length cK,.slice A L.length c]) rfl rfl rfl rfl cG rfl Wj Wz WQ #[.int .u8 169,.int .u64 0,.string ⟨#[]⟩,.slice AK KS.length cK,.slice A L.length c] Wz ?_)
 | refine zc (zm (v:=.agg #[.int .u8 168,.int .u64 0,.string ⟨#[]⟩,.slice AK KS.length cK,.slice A L.length c]) (vs:=[.int .u8 168,.int .u64 0,.string ⟨#[]⟩,.slice AK KS.length cK,.slice A L.length c]) rfl rfl rfl rfl cG rfl Wj Wz WQ #[.int .u8 168,.int .u64 0,.string ⟨#[]⟩,.slice AK KS.length cK,.slice A L.length c] Wz ?_)
 intro w8 dn H5 _;have BR:=hR.kept H5 wZ;have dl:=hP.grown H5 (sne Wq);have bT:=bu.grown bI H5 (fun g hg=>by injection hg with hg;exact⟨by omega,.inr (.inr Wq)⟩);go_wp2_with(with_reducible refine h_A ?_);refine xG rfl dn rfl underlying78 rfl Wj rfl ?_;rw[B2.out];have cI:=hS.box H5 Wq;first|(have qqgu:=qqgu;have cg:=cI.rv (k:=169) (B:=w.heap.size) Wq Wq (fun x hx=>by have:=df x hx;omega) Wq (by rw[←tp,List.length_map]at pa;omega))|(have cg:=cI.rv (k:=168) (B:=w.heap.size) Wq Wq (fun x hx=>by have:=df x hx;omega) Wq (by rw[←tp,List.length_map]at pa;omega))
 rw[tp]at cg
 exact⟨⟨AK,cK,A,c⟩,rfl,cg,BR,dl,bT⟩):p:=h
theorem Z4w_(h:p:=by
 go_wp2_with(with_reducible refine h_A ?_);refine gY.mono ?_
 exact Z6p_):p:=h
theorem Z45_(h:p:=by
 first
 | have qqiq:=qqiq
   have g0:(0:Int)≤(n:Int)-1:=by omega
   have gY:=xR hR hP false (.inl rfl)
 | have B2:Hid (rr=none):=Lib.hid (by rw[ng.out,jv _ _ _ _ (.inr (.inl (by rw[←r6.out])))])
   have gY:=xR hR hP true (.inr rfl)
 exact Z4w_):p:=h
theorem Z49_(h:p:=by
 have B2:=Lib.hid (show rr=none by rw[cm.out];rfl);clear cm;go_wp2_with(with_reducible refine h_A ?_);refine mK.mono ?_;rintro e w7 ⟨rfl,dQ⟩;go_wp2_with(with_reducible refine h_A ?_);rw[B2.out]
 exact⟨rfl,rfl,cy.trans dQ⟩):p:=h
theorem Z3_(h:p:=by
 intro d n F B pb vb v l bad w AV hr hp hFp hF hBp hn;have iu:=hr.inF rfl;have rL:=hF vb iu;have G3:pb≠vb:=fun e=>hFp (e▸iu)
 have EG:=hp.lt;have bI:B≤w.heap.size:=by omega
 first|(have qq7:=qq7;obtain⟨rr,B1⟩:∃q,q=ja 0 n l bad:=⟨_,rfl⟩)|(obtain⟨rr,B1⟩:∃q,q=ja (f+1) n l bad:=⟨_,rfl⟩)
 rw[←B1];have ng:=Lib.hid B1;clear B1;have dw:=Ze l bad;obtain⟨q1,eQ⟩:∃q,q=mnum l bad 1:=⟨_,rfl⟩
 rw[←eQ]at dw;obtain⟨k,l1,b1⟩:=q1;simp only at dw;have r6:=Lib.hid eQ;clear eQ;obtain⟨rb,w1,da,cg,cG,Ha⟩:=zg w #[.int .u8 0,.int .u64 0,.string ⟨#[]⟩,.slice none 0 0,.slice none 0 0] 78;have dT:=hr.below Ha;have lQ:=hp.below Ha;have lx:=(KP.refl B pb vb w).below bI Ha;have c1:=lQ.c1;go_enter func177,ntmps177;go_upto_region 1 with fail;rw[←da,←cg];have nO:w.heap.size≤rb:=by omega
 clear da cg hr hp Ha;go_wp2_with(with_reducible refine h_B ?_);refine zc (zm (v:=.int .i64 ((n:Int)-1)) (vs:=[.int .i64 ((n:Int)-1)]) rfl rfl rfl rfl lQ rfl Wj Wz wX #[v,.int .i64 ((n:Int)-1)] Wz ?_);intro w2 fW Hm _;have dA:=cG.grown Hm (sne Wq);have cE:=dT.kept Hm (fun g hg=>by injection hg with hg;subst hg;exact hFp);have cP:=lx.grown bI Hm (fun g hg=>by injection hg with hg;subst hg;exact⟨hBp,.inl rfl⟩);clear c1 dT lQ lx cG Hm;have c0:=fW.c0;have h1:=yn cE 1 Wq Wq;rw[←r6.out]at h1;go_wp2_with(with_reducible refine h_B ?_);refine h1.mono ?_;rintro e w3 ⟨rfl,cl,H7⟩;have eM:=dA.grown H7 (sne Wq);have pA:=fW.grown H7 (sne Wq);have cy:=cP.grown bI H7 nJ;clear c0 h1 cE fW cP dA H7;try simp only at cl
 have hz:=Box.new w3 #[.int .u8 0,.int .u64 0,.string ⟨#[]⟩,.slice none 0 0,.slice none 0 0] 78;have dc:=(Below.refl w3.heap.size w3).alloc (Nat.le_refl _) (.cells #[.int .u8 0,.int .u64 0,.string ⟨#[]⟩,.slice none 0 0,.slice none 0 0] 78);have pU:=eM.lt;go_wp2_with(with_reducible refine h_B ?_);obtain⟨xb,Hg⟩:∃g,g=w3.heap.size:=⟨_,rfl⟩
 rw[←Hg]at hz pU ⊢;have cV:=cl.below dc;have me:=pA.below dc;have uS:=eM.below dc;have tT:=cy.below bI dc;have hxa:w3.heap.size≤xb:=by omega
 have IZ:xb≤w3.heap.size:=by omega
 have Hh:B≤w3.heap.size:=Nat.le_trans bI cy.size;have lN:=(KP.refl B pb vb w3).below Hh dc;have sw:w.heap.size≤xb:=by omega
 have hpx:pb≠xb:=by omega
 have ep:vb≠xb:=by omega
 clear Hg cl pA dc;generalize(w3.alloc (.cells #[.int .u8 0,.int .u64 0,.string ⟨#[]⟩,.slice none 0 0,.slice none 0 0] 78))=w4 at*;refine zc (zm (v:=.agg #[.int .u8 (k:Int),.int .u64 0,.string ⟨#[]⟩,.slice none 0 0,.slice none 0 0]) (vs:=[.int .u8 (k:Int),.int .u64 0,.string ⟨#[]⟩,.slice none 0 0,.slice none 0 0]) rfl rfl rfl rfl hz rfl Wj Wz uZ #[.int .u8 (k:Int),.int .u64 0,.string ⟨#[]⟩,.slice none 0 0,.slice none 0 0] Wz ?_);intro w5 hX bc _;have hR:=cV.kept bc wZ;have hP:=me.grown bc (sne Wq);have cG:=uS.grown bc (sne Wq);have bu:=tT.grown bI bc (fun g hg=>by injection hg with hg;exact⟨by omega,.inr (.inr Wq)⟩);replace lN:=lN.grown Hh bc (fun g hg=>by injection hg with hg;exact⟨by omega,.inr (.inr Wq)⟩);clear hz cV me uS tT bc;have c1:=hP.c1
 first
 | have qq7:=qq7
   have B2:Hid (rr=none):=Lib.hid (by rw[ng.out,jv _ _ _ _ (.inr (.inr rfl))])
   obtain rfl:d=7:=by omega
 | have gd:(d:Int)≤6:=by omega
 by_cases h0:n=0
 ·first|done|(have qq7:=qq7)|(have B2:Hid (rr=none):=Lib.hid (by rw[ng.out,jv _ _ _ _ (.inl h0)]))
  have g0:¬(0:Int)≤(n:Int)-1:=by omega
  have gY:=xR hR hP false (.inl rfl);exact Z4w_
 first
 | have qq7:=qq7
   ·have qqiq:=()
    exact Z45_
 | have g0:(0:Int)≤(n:Int)-1:=by omega
   cases b1
   case true=>
    exact Z45_
   case false=>
    obtain rfl:bad=false:=by
     cases bad
     ·rfl
     have:=r6.out;rw[zbs]at this;(injection this with _ this);injection this with _ this
     cases this
    have B1:rr=yz (f+1) n l:=ng.out;rw[Jq r6.out h0]at B1;have HV:=Lib.hid B1;clear ng r6 B1;(have eK:((n:Int)-1)=((n-1:Nat):Int):=by omega);have gY:=xK hR hP;go_wp2_with(with_reducible refine h_A ?_);refine gY.mono ?_;rintro e w6 ⟨rfl,rfl⟩;clear gY c1;rw[eK]at hP;have x0:=hX.c0;generalize dq:(k:Int)=kI at*;have fk:=Lib.hid dq;clear x0 dq;by_cases rg:k=240
    ·subst rg;(obtain rfl:kI=240:=by rw[←fk.out];rfl);have B2:Hid (rr=some (.mk 240 0 [] [] [],l1,n-1)):=Lib.hid (by rw[HV.out,if_pos rfl]);clear HV;have BX:=xK hR hP;have x0:=hX.c0;go_wp2_with(with_reducible refine h_A ?_);refine BX.mono ?_;rintro e w9 ⟨rfl,rfl⟩;clear BX x0;have x0:=hX.c0;have x1:=hX.c1;have x2:=hX.c2;have x3:=hX.c3;have x4:=hX.c4;go_wp2_with(with_reducible refine h_B ?_);refine zc (zm (v:=.agg #[.int .u8 240,.int .u64 0,.string ⟨#[]⟩,.slice none 0 0,.slice none 0 0]) (vs:=[.int .u8 240,.int .u64 0,.string ⟨#[]⟩,.slice none 0 0,.slice none 0 0]) rfl rfl rfl rfl cG rfl Wj Wz WQ #[.int .u8 240,.int .u64 0,.string ⟨#[]⟩,.slice none 0 0,.slice none 0 0] Wz ?_);intro w8 dn H5 _;have BR:=hR.kept H5 wZ;have dl:=hP.grown H5 (sne Wq);have bT:=bu.grown bI H5 (fun g hg=>by injection hg with hg;exact⟨by omega,.inr (.inr Wq)⟩);go_wp2_with(with_reducible refine h_A ?_);refine xG rfl dn rfl underlying78 rfl Wj rfl ?_;rw[B2.out];exact⟨⟨none,0,none,0⟩,rfl,RV.leaf _ _ _ _ _ Wq Wq Wz,BR,dl,bT⟩
    by_cases k8:k=8
    ·have qqfm:=();exact Z3p_
    by_cases k2:k=2
    ·have qqfn:=();exact Z3p_
    by_cases L6:k=50
    ·have qqfo:=();exact Z3p_
    by_cases Ii:k=49
    ·have qqfp:=();exact Z3p_
    by_cases ri:k=149
    ·have qqfl:=();exact Z3p_
    by_cases rG:k=160
    ·exact Z3p_
    by_cases ua:k=168
    ·subst ua;(obtain rfl:kI=168:=by rw[←fk.out];rfl);have cm:Hid (rr=(j4 (yz f) true (n-1) l1).map (fun q=>(.mk 168 0 [] q.1 q.2.1,q.2.2))):=Lib.hid (by rw[HV.out,if_neg WJ,if_neg WJ,if_neg WJ,if_neg WJ,if_neg WJ,if_pos (.inl rfl)];rfl);clear HV;have x0:=hX.c0;have mK:=zbu f bP d (n-1) F B pb vb xb v l1 w3 _ Wq ⟨hR,hP,hX,hFp,fun g hg=>⟨(hF g hg).1,Nat.lt_of_lt_of_le (hF g hg).2 cy.size⟩,Nat.lt_of_lt_of_le EG cy.size,hBp,Hh,hxa,by omega,lN⟩;(obtain⟨vm,sO⟩:∃q,q=j4 (yz f) true (n-1) l1:=⟨_,rfl⟩);rw[←sO]at mK cm;clear sO
     cases vm with
     | none=>
      exact Z49_
     | some q=>
      exact Z3t_
    by_cases u5:k=169
    ·subst u5;(obtain rfl:kI=169:=by rw[←fk.out];rfl);have cm:Hid (rr=(j4 (yz f) false (n-1) l1).map (fun q=>(.mk 169 0 [] q.1 q.2.1,q.2.2))):=Lib.hid (by rw[HV.out,if_neg WJ,if_neg WJ,if_neg WJ,if_neg WJ,if_neg WJ,if_pos (.inr rfl)];rfl);clear HV;have x0:=hX.c0;have mK:=VM f bP d (n-1) F B pb vb xb v l1 w3 _ Wq ⟨hR,hP,hX,hFp,fun g hg=>⟨(hF g hg).1,Nat.lt_of_lt_of_le (hF g hg).2 cy.size⟩,Nat.lt_of_lt_of_le EG cy.size,hBp,Hh,hxa,by omega,lN⟩;(obtain⟨vm,sO⟩:∃q,q=j4 (yz f) false (n-1) l1:=⟨_,rfl⟩);rw[←sO]at mK cm;clear sO
     cases vm with
     | none=>
      exact Z49_
     | some q=>
      have qqgu:=();exact Z3t_
    have B2:Hid (rr=none):=Lib.hid (by rw[HV.out,if_neg rg,if_neg Wq,if_neg Wq,if_neg ri,if_neg rG,if_neg Wq]);(have Il:(kI==240)=false:=by have:=fk.out;simp;omega);(have g8:(kI==8)=false:=by have:=fk.out;simp;omega);(have g2:(kI==2)=false:=by have:=fk.out;simp;omega);(have TC:(kI==50)=false:=by have:=fk.out;simp;omega);(have T7:(kI==49)=false:=by have:=fk.out;simp;omega);(have Ip:(kI==149)=false:=by have:=fk.out;simp;omega);(have I5:(kI==160)=false:=by have:=fk.out;simp;omega);(have Wr:(kI==168)=false:=by have:=fk.out;simp;omega);(have W1:(kI==169)=false:=by have:=fk.out;simp;omega);clear HV rg k8 k2 L6 Ii ri rG ua u5 fk;have x0:=hX.c0;have BX:=xR hR hP false (.inl rfl)
    exact Z4x_):p:=h
theorem Z3s_(h:p:=by
 obtain⟨i,hi,rfl,HC,hB⟩:=hrel;have pX:=hX.below hB;have c4:=pX.c4;by_cases hlt:i<LL
 ·have g1:(i:Int)<(LL:Int):=by omega
  have BE:i<v.list.length:=by rw[←Cf.out];exact hlt
  obtain⟨b,off,hx,rfl,ep,HX⟩:=tC.out i BE;obtain⟨k0,k1,k2,k3,k4⟩:=HX wr hB;have HD:Hid ((v.list.drop i).all (mayV zJ)=(mayV zJ v.list[i]&&(v.list.drop (i+1)).all (mayV zJ))):=Lib.hid (by rw[List.drop_eq_getElem_cons BE,List.all_cons]);have hq:=IH.out _ (List.getElem_mem BE) hx wr (ep.up hB);clear HX ep;generalize v.list[i]=x at*;unfold vlV MayR at hq
  cases hp:mayV zJ x
  ·have HQ:Hid (v.list.all (mayV zJ)=false):=Lib.hid (by rw[←HC.out,HD.out,hp];rfl);rw[hp]at hq;clear hp;go_wp2_with(with_reducible refine h_A ?_);refine hq.mono ?_;rintro e w9 ⟨rfl,Bh⟩;clear hq k0 k1 k2 k3 k4 c4;go_wp2_with(with_reducible refine h_A ?_);go_ret;have h9:=Cd.out;rw[HQ.out]at h9;exact⟨(by rw[←h9];rfl),Ha.trans ((hB.trans (Bh.mono hB.size)).mono Ha.size)⟩
  have HQ:Hid ((v.list.drop (i+1)).all (mayV zJ)=v.list.all (mayV zJ)):=Lib.hid (by rw[←HC.out,HD.out,hp];rfl);rw[hp]at hq;clear hp;go_wp2_with(with_reducible refine h_A ?_);refine hq.mono ?_;rintro e w9 ⟨rfl,Bh⟩;clear hq k0 k1 k2 k3 k4 c4;go_wp2_with(with_reducible refine h_A ?_);exact⟨⟨i+1,by omega,by go_num,HQ,hB.trans (Bh.mono hB.size)⟩,by simp[RowKit.intOf];omega⟩
 have g1:¬(i:Int)<(LL:Int):=by omega
 have HQ:Hid (v.list.all (mayV zJ)=true):=Lib.hid (by rw[←HC.out,List.drop_eq_nil_of_le (by rw[←Cf.out];omega)];rfl);go_wp2_with(with_reducible refine h_A ?_);go_ret;have h9:=Cd.out;rw[HQ.out]at h9
 exact⟨(by rw[←h9];rfl),Ha.trans (hB.mono Ha.size)⟩):p:=h
theorem Z6n_(h:p:=by
 go_upto_region 1 with fail;rw[←Hg,←Hi];clear Hg Hi;go_wp2_with(with_reducible refine h_A ?_);go_ret
 exact⟨rfl,Ha⟩):p:=h
theorem Z51_(h:p:=by
 go_enter func145,ntmps145
 exact Z6n_):p:=h
theorem Z3x_(h:p:=by
 have PB:(k==149)=false:=by simp;omega
 by_cases Gd:kd=160
 ·obtain rfl:k=160:=by rw[←hk,Gd];rfl
  clear hk;first|(have qqhn:=qqhn;obtain rfl:r=false:=by rw[HR.out];simp[mayF,HM.out,nS.out])|(obtain rfl:r=false:=by rw[HR.out];simp[mayF,HM.out,HL.out,rF.out])
  exact Z51_
 have RL:(k==160)=false:=by simp;omega
 first|(have qqhn:=qqhn;obtain rfl:r=false:=by rw[HR.out];simp[mayF,HM.out,nS.out])|(obtain rfl:r=false:=by rw[HR.out];simp[mayF,HM.out,HL.out,rF.out])
 exact Z51_):p:=h
theorem Z6q_(h:p:=by
 go_wp2_with(with_reducible refine h_A ?_);go_ret
 exact⟨rfl,Ha.trans (Hc.mono Ha.size)⟩):p:=h
theorem Z3y_(h:p:=by
 first
 | have qqht:=qqht
   obtain rfl:r=false:=by rw[HR.out];simp[mayF]
   go_enter func145,ntmps145
 | have qqhs:=qqhs
   obtain rfl:r=false:=by rw[HR.out];simp[mayF]
   go_enter func149,ntmps149
 | have HN:=Lib.hid hn
   (have gn:(nn==0)=false:=by simp;omega);clear dg hn;(obtain rfl:r=false:=by rw[HR.out];simp[mayF,ln.out,HN.out]);go_enter func149,ntmps149
 go_upto_region 1 with fail;rw[←Hg,←Hi];clear Hg Hi;go_wp2_with(with_reducible refine h_A ?_);refine eI.mono ?_;rintro e w2 ⟨rfl,Hc⟩
 first
 | done
 | have qqht:=qqht
 | have qqhs:=qqhs
 | have Hk:=hX.below Hc
   have lW:=tO.out w2 Hc;clear c0 c1 c2 c3 c4;have c0:=Hk.c0;have c1:=Hk.c1;have c2:=Hk.c2;have c3:=Hk.c3;have c4:=Hk.c4
 exact Z6q_):p:=h
theorem Z5g_(h:p:=by
 exact Z6n_):p:=h
theorem Z41_(h:p:=by
 first
 | done
 | have qqia:=qqia
 | have qqi9:=qqi9
   rw[decide_eq_false hs]at fU cW
   simp only[Bool.not_false]at cW
 | rw[decide_eq_true hs]at fU cW
   simp only[Bool.not_true]at cW
 have HS:=Lib.hid hs;first|done|(have qqia:=qqia;have gs:¬(sl:Int)≤4096:=by omega)|(have qqi9:=qqi9)|(have gs:¬(4096:Int)<(sl:Int):=by omega)
 clear hs
 first
 | have qqia:=qqia
   obtain rfl:r=false:=by rw[HR.out];simp[mayF,HN.out,HS.out]
   go_enter func149,ntmps149
 | obtain rfl:r=false:=by rw[HR.out];simp[mayF,At.out,H8.out,H2.out,NR.out,N5.out,AG.out,AO.out,La.out,N7.out]
   go_enter func145,ntmps145
 exact Z5g_):p:=h
theorem Z47_(h:p:=by
 first|(have qqiu:=qqiu;obtain rfl:k=169:=by rw[←hk,Sf];rfl)|(obtain rfl:k=149:=by rw[←hk,Fe];rfl)
 clear hk;first|(have qqiu:=qqiu;obtain rfl:r=false:=by rw[HR.out];simp[mayF,HM.out,nS.out])|(have qqit:=qqit;obtain rfl:r=false:=by rw[HR.out];simp[mayF,HM.out,nS.out])|(obtain rfl:r=false:=by rw[HR.out];simp[mayF,HM.out,HL.out,rF.out])
 exact Z51_):p:=h
theorem Z4d_(h:p:=by
 obtain⟨rfl,hB⟩:=hrel;have pX:=hX.below hB;have c4:=pX.c4;go_wp2_with(with_reducible refine h_A ?_);go_ret
 exact⟨rfl,Ha.trans (hB.mono Ha.size)⟩):p:=h
theorem Z53_(h:p:=by
 go_wp2_with(with_reducible refine h_A ?_);go_ret
 exact⟨rfl,(Ha.trans (Hc.mono Ha.size)).trans (Hh.mono (Ha.trans (Hc.mono Ha.size)).size)⟩):p:=h
theorem Z64_(h:p:=by
 go_wp2_with(with_reducible refine h_A ?_);go_ret
 exact⟨rfl,(Ha).trans (Hh.mono (Ha).size)⟩):p:=h
theorem Z4_(h:p:=by
 first
 | have qqm:=qqm
   refine Vl.ind (P:=fun v=>∀(h:VH) (w:World),RVw w v h→UTabs w→Calls prog 149 #[.agg (vlV v h)] w (MayR w v)) ?_ v
   intro v ih h w hv hT
 | refine Vl.ind (P:=fun v=>∀(h:VH) (w:World),RVw w v h→Calls prog 145 #[.agg (vlV v h)] w (MayR w v)) ?_ v
   intro v ih h w hv
 unfold vlV MayR;obtain⟨xb,w1,Hg,Hi,hX,Ha⟩:=zg w #[.int .u8 (v.kind:Int),.int .u64 (v.n:Int),.string (str v.s),.slice h.A1 v.keys.length h.c1,.slice h.A2 v.list.length h.c2] 78;have dF:=hv.up Ha;first|(have qqm:=qqm;have uu:=hT.on Ha)|(skip)
 obtain⟨_,S9,mS,mm,Lp,wO⟩:=hv.bounds
 have lT:RdX w1 (fun g=>g<w1.heap.size) 1 h.A1 v.keys.length h.c1 (v.keys.map txV):=by
  obtain⟨xs,_,_,_,lT⟩:=dF.parts;exact lT
 first
 | have qqm:=qqm
   have eI:=Va h.A1 v.keys.length h.c1 v.keys w1 lT.1 Lp mm uu;have ek:=Xy v.s w1 mS uu;have lW:=fun W (hW:Below w1.heap.size w1 W)=>zco (fun x=> !mayV zJ x) 0 v h W (dF.up hW) (fun x hx pp W' Gt ep=>za4 x pp W' ep (fun W2 GB=>ih x hx pp W2 (ep.up GB) (((uu.on hW).on Gt).on GB)))
   rw[Qt]at lW
 | have eI:=VW h.A1 v.keys.length h.c1 v.keys w1 lT.1 Lp mm
   have ek:=VX v.s w1 mS;(have BF:=fun i (hi:i<v.list.length)=>dF.elem hi);have tC:=Lib.hid BF;have IH:=Lib.hid ih
 obtain⟨r,hr⟩:∃r,r=mayV zJ v:=⟨_,rfl⟩
 rw[←hr];rw[kJ]at hr;have BM:v.list.length=0→v.list.all (mayV zJ)=true:=fun e=>by rw[List.length_eq_zero_iff.1 e];rfl
 have fU:=ZJ v.s;first|done|(have qqm:=qqm)|(have cW:((str v.s).toList != [])= !decide (v.s.length=0):=by rw[zn];cases v.s<;>simp)
 have has:=zh v.s;first|(have qqm:=qqm;clear ih hv hT dF uu lT mm)|(clear ih hv dF lT mm BF)
 generalize xC v.keys zJ=ko at*;generalize zJ v.s=pl at*;first|(have qqm:=qqm;generalize v.list.all (mayV zJ)=al at*)|(generalize Cs:v.list.all (mayV zJ)=al at*)
 generalize v.keys.length=KL at*
 first
 | have qqm:=qqm
   generalize v.list.length=LL at*
 | obtain⟨LL,ry⟩:∃LL,LL=v.list.length:=⟨_,rfl⟩
   rw[←ry]at wO BM Hi hX hr ⊢
 generalize v.s=s at*;obtain⟨h1,j1,h2,j2⟩:=h;simp only at*;generalize v.kind=kd at*;generalize v.n=nd at*;generalize hk:((kd:Nat):Int)=k at*;generalize dg:((nd:Nat):Int)=nn at*;generalize Ee:s.length=sl at*;have HR:=Lib.hid hr;have wI:=Lib.hid BM
 first
 | have qqm:=qqm
   clear hr BM Ee
 | have Cd:=Lib.hid Cs
   have Cf:=Lib.hid ry;clear hr BM Ee Cs ry
 have c0:=hX.c0;have c1:=hX.c1;have c2:=hX.c2;have c3:=hX.c3;have c4:=hX.c4
 first
 | have qqm:=qqm
   have tO:=Lib.hid lW
   clear lW
 | skip
 by_cases Hp:kd=168
 ·subst Hp;obtain rfl:k=168:=by rw[←hk];rfl
  clear hk ek;first|(have qqm:=qqm;by_cases BD:KL=LL)|(by_cases hs:sl=0)
  ·first
   | have qqm:=qqm
     (have gl:((KL:Int)!=(LL:Int))=false:=by simp[BD]);have ln:=Lib.hid BD;clear BD
     cases ko
     ·have qqhs:=()
      exact Z3y_
   | rw[decide_eq_true hs]at fU cW
     simp only[Bool.not_true]at cW;have HS:=Lib.hid hs;(have gs:¬(4096:Int)<(sl:Int):=by omega);clear hs;by_cases BD:KL=LL
   ·first
    | have qqm:=qqm
      by_cases hn:nd=0
    | have gl:((KL:Int)!=(LL:Int))=false:=by simp[BD]
      have ln:=Lib.hid BD;clear BD
      cases ko
      ·have qqht:=();exact Z3y_
    ·first
     | have qqm:=qqm
       have HN:=Lib.hid hn;(have gn:(nn==0)=true:=by simp;omega);clear dg hn
       by_cases hs:sl=0
     | by_cases hn:nd=0
     ·first
      | have qqm:=qqm
        rw[decide_eq_true hs]at fU;have HS:=Lib.hid hs;clear hs;obtain rfl:r=al:=by rw[HR.out];simp[mayF,ln.out,HN.out,HS.out]
        go_enter func149,ntmps149
      | have fQ:=Lib.hid hn
        (have gn:(nn !=0)=false:=by simp;omega);(have AX:(nn==0)=true:=by simp;omega);clear dg hn;(obtain rfl:r=al:=by rw[HR.out];simp[mayF,ln.out,HS.out,fQ.out]);go_enter func145,ntmps145
      go_upto_region 1 with fail;rw[←Hg,←Hi];clear Hg Hi;go_wp2_with(with_reducible refine h_A ?_);refine eI.mono ?_;rintro e w2 ⟨rfl,Hc⟩;have Hk:=hX.below Hc;(first|(have qqm:=qqm;have lW:=tO.out w2 Hc)|(skip));clear c0 c1 c2 c3 c4;have c0:=Hk.c0;have c1:=Hk.c1;have c2:=Hk.c2;have c3:=Hk.c3;have c4:=Hk.c4;go_wp2_with(with_reducible refine h_A ?_)
      first
      | have qqm:=qqm
        refine lW.mono ?_;rintro e w3 ⟨rfl,Hh⟩
        cases r
        ·exact Z53_
        ·exact Z53_
      | clear c0 c1 c2 c3 c4
        go_loopw [5] (fun s4 wr=>∃i:Nat,i≤LL∧s4= .int .i64 i∧Hid ((v.list.drop i).all (mayV zJ)=v.list.all (mayV zJ))∧Below w1.heap.size w1 wr) (fun s4 _=>LL-(RowKit.intOf s4).toNat)
        case atStart=>exact⟨0,by omega,rfl,Lib.hid rfl,Hc⟩
        case round=>
         exact Z3s_
     first
     | have qqm:=qqm
       rw[decide_eq_false hs]at fU;have HS:=Lib.hid hs;clear hs;obtain rfl:r=false:=by rw[HR.out];simp[mayF,ln.out,HN.out,HS.out]
       go_enter func149,ntmps149
     | have fQ:=Lib.hid hn
       (have gn:(nn !=0)=true:=by simp;omega);(have AX:(nn==0)=false:=by simp;omega);clear dg hn;(obtain rfl:r=false:=by rw[HR.out];simp[mayF,ln.out,HS.out,fQ.out]);go_enter func145,ntmps145
     go_upto_region 1 with fail;rw[←Hg,←Hi];clear Hg Hi;go_wp2_with(with_reducible refine h_A ?_);refine eI.mono ?_;rintro e w2 ⟨rfl,Hc⟩;have Hk:=hX.below Hc;(first|(have qqm:=qqm;have lW:=tO.out w2 Hc)|(skip));clear c0 c1 c2 c3 c4;have c0:=Hk.c0;have c1:=Hk.c1;have c2:=Hk.c2;have c3:=Hk.c3;have c4:=Hk.c4;go_wp2_with(with_reducible refine h_A ?_);go_ret;first|(have qqm:=qqm;exact⟨rfl,Ha.trans (Hc.mono Ha.size)⟩)|(exact⟨rfl,Ha.trans ((Hc).mono Ha.size)⟩)
    first
    | have qqm:=qqm
      ·exact Z3y_
    | skip
   first
   | done
   | have qqm:=qqm
   | ·have gl:((KL:Int)!=(LL:Int))=true:=by simp;omega
      have ln:=Lib.hid BD;clear BD;(obtain rfl:r=false:=by rw[HR.out];simp[mayF,ln.out]);exact Z51_
  first
  | have qqm:=qqm
    (have gl:((KL:Int)!=(LL:Int))=true:=by simp;omega);have ln:=Lib.hid BD;clear BD;obtain rfl:r=false:=by rw[HR.out];simp[mayF,ln.out]
    go_enter func149,ntmps149
  | rw[decide_eq_false hs]at fU cW
    simp only[Bool.not_false]at cW;have HS:=Lib.hid hs;clear hs;(obtain rfl:r=false:=by rw[HR.out];simp[mayF,HS.out]);go_enter func145,ntmps145
  exact Z5g_
 have gm:(k !=168)=true:=by simp;omega
 have oO:(k==168)=false:=by simp;omega
 by_cases bK:0<KL
 ·have gk:(0:Int)<(KL:Int):=by omega
  have HM:=Lib.hid Hp;have nS:Hid (¬KL=0):=Lib.hid Wq;clear bK Hp
  first
  | have qqm:=qqm
    (obtain rfl:r=false:=by rw[HR.out];simp[mayF,HM.out,nS.out]);go_enter func149,ntmps149;go_upto_region 1 with fail;rw[←Hg,←Hi];clear Hg Hi;go_wp2_with(with_reducible refine h_A ?_);go_ret
    exact⟨rfl,Ha⟩
  | by_cases Sf:kd=169
    ·have qqiu:=();exact Z47_
    ·(have hdv:(k==169)=false:=by simp;omega);by_cases Fe:kd=149
     ·have qqit:=();exact Z47_
     have qqhn:=();exact Z3x_
 have gk:¬(0:Int)<(KL:Int):=by omega
 obtain rfl:KL=0:=by omega
 by_cases B5:kd=169
 ·subst B5;obtain rfl:k=169:=by rw[←hk];rfl
  clear hk bK Hp gm oO eI ek;first|(have qqm:=qqm;by_cases hn:nd=0)|(by_cases hs:sl=0)
  ·first
   | have qqm:=qqm
     have HN:=Lib.hid hn;(have gn:(nn==0)=true:=by simp;omega);clear dg hn
     by_cases hs:sl=0
   | rw[decide_eq_true hs]at fU cW
     simp only[Bool.not_true]at cW;have HS:=Lib.hid hs;(have gs:¬(4096:Int)<(sl:Int):=by omega);clear hs;by_cases hn:nd=0
   ·first
    | have qqm:=qqm
      rw[decide_eq_true hs]at fU;have HS:=Lib.hid hs;clear hs;(obtain rfl:r=al:=by rw[HR.out];simp[mayF,HN.out,HS.out]);have lW:=tO.out w1 (Below.refl _ _)
      go_enter func149,ntmps149
    | have fQ:=Lib.hid hn
      (have gn:(nn !=0)=false:=by simp;omega);(have AX:(nn==0)=true:=by simp;omega);clear dg hn;(obtain rfl:r=al:=by rw[HR.out];simp[mayF,HS.out,fQ.out]);go_enter func145,ntmps145
    go_upto_region 1 with fail;rw[←Hg,←Hi];clear Hg Hi;go_wp2_with(with_reducible refine h_A ?_)
    first
    | have qqm:=qqm
      refine lW.mono ?_;rintro e w3 ⟨rfl,Hh⟩
      cases r
      ·exact Z64_
      ·exact Z64_
    | clear c0 c1 c2 c3 c4
      go_loopw [5] (fun s4 wr=>∃i:Nat,i≤LL∧s4= .int .i64 i∧Hid ((v.list.drop i).all (mayV zJ)=v.list.all (mayV zJ))∧Below w1.heap.size w1 wr) (fun s4 _=>LL-(RowKit.intOf s4).toNat)
      case atStart=>exact⟨0,by omega,rfl,Lib.hid rfl,Below.refl _ _⟩
      case round=>
       exact Z3s_
   first
   | have qqm:=qqm
     rw[decide_eq_false hs]at fU;have HS:=Lib.hid hs;clear hs;obtain rfl:r=false:=by rw[HR.out];simp[mayF,HN.out,HS.out]
     go_enter func149,ntmps149
   | have fQ:=Lib.hid hn
     (have gn:(nn !=0)=true:=by simp;omega);(have AX:(nn==0)=false:=by simp;omega);clear dg hn;(obtain rfl:r=false:=by rw[HR.out];simp[mayF,HS.out,fQ.out]);go_enter func145,ntmps145
   go_upto_region 1 with fail;rw[←Hg,←Hi];clear Hg Hi;go_wp2_with(with_reducible refine h_A ?_);go_ret;first|(have qqm:=qqm;exact⟨rfl,Ha⟩)|(exact⟨rfl,Ha.trans ((Below.refl _ _).mono Ha.size)⟩)
  first
  | have qqm:=qqm
    have HN:=Lib.hid hn;(have gn:(nn==0)=false:=by simp;omega);clear dg hn;obtain rfl:r=false:=by rw[HR.out];simp[mayF,HN.out]
    go_enter func149,ntmps149
  | rw[decide_eq_false hs]at fU cW
    simp only[Bool.not_false]at cW;have HS:=Lib.hid hs;clear hs;(obtain rfl:r=false:=by rw[HR.out];simp[mayF,HS.out]);go_enter func145,ntmps145
  exact Z5g_
 have gl:(k !=169)=true:=by simp;omega
 have rf:(k==169)=false:=by simp;omega
 by_cases fD:0<LL
 ·have Pf:(0:Int)<(LL:Int):=by omega
  have HM:=Lib.hid Hp;have HL:=Lib.hid B5;have rF:Hid (¬LL=0):=Lib.hid Wq;clear fD Hp B5
  first
  | have qqm:=qqm
    (obtain rfl:r=false:=by rw[HR.out];simp[mayF,HM.out,HL.out,rF.out]);go_enter func149,ntmps149;go_upto_region 1 with fail;rw[←Hg,←Hi];clear Hg Hi;go_wp2_with(with_reducible refine h_A ?_);go_ret
    exact⟨rfl,Ha⟩
  | by_cases Fe:kd=149
    ·exact Z47_
    ·exact Z3x_
 have Pf:¬(0:Int)<(LL:Int):=by omega
 obtain rfl:LL=0:=by omega
 obtain rfl:al=true:=wI.out rfl;first|(have qqm:=qqm;clear tO wI fD bK eI)|(clear fD bK eI)
 by_cases p9:kd=240
 ·subst p9;obtain rfl:k=240:=by rw[←hk];rfl
  clear hk Hp gm oO B5 gl rf;first|(have qqm:=qqm;by_cases hn:nd=0)|(by_cases hs:sl=0)
  ·first
   | have qqm:=qqm
     have HN:=Lib.hid hn;(have gn:(nn==0)=true:=by simp;omega);clear dg hn
     by_cases hs:sl=0
   | rw[decide_eq_true hs]at fU cW
     simp only[Bool.not_true]at cW;have HS:=Lib.hid hs;(have gs:¬(4096:Int)<(sl:Int):=by omega);clear hs;by_cases hn:nd=0
   ·first
    | have qqm:=qqm
      rw[decide_eq_true hs]at fU;have HS:=Lib.hid hs;clear hs;obtain rfl:r=true:=by rw[HR.out];simp[mayF,HN.out,HS.out]
      go_enter func149,ntmps149
    | have fQ:=Lib.hid hn
      (have gn:(nn !=0)=false:=by simp;omega);(have AX:(nn==0)=true:=by simp;omega);clear dg hn;(obtain rfl:r=true:=by rw[HR.out];simp[mayF,HS.out,fQ.out]);go_enter func145,ntmps145
    go_upto_region 1 with fail;rw[←Hg,←Hi];clear Hg Hi;go_wp2_with(with_reducible refine h_A ?_)
    first
    | have qqm:=qqm
      go_ret
      exact⟨rfl,Ha⟩
    | clear c0 c1 c2 c3 c4
      go_loopw [5] (fun s4 wr=>s4= .int .i64 0∧Below w1.heap.size w1 wr) (fun _ _=>0)
      case atStart=>exact⟨rfl,Below.refl _ _⟩
      case round=>
       exact Z4d_
   first
   | have qqm:=qqm
     rw[decide_eq_false hs]at fU;have HS:=Lib.hid hs;clear hs;obtain rfl:r=false:=by rw[HR.out];simp[mayF,HN.out,HS.out]
     go_enter func149,ntmps149
   | have fQ:=Lib.hid hn
     (have gn:(nn !=0)=true:=by simp;omega);(have AX:(nn==0)=false:=by simp;omega);clear dg hn;(obtain rfl:r=false:=by rw[HR.out];simp[mayF,HS.out,fQ.out]);go_enter func145,ntmps145
   go_upto_region 1 with fail;rw[←Hg,←Hi];clear Hg Hi;go_wp2_with(with_reducible refine h_A ?_);go_ret;first|(have qqm:=qqm;exact⟨rfl,Ha⟩)|(exact⟨rfl,Ha.trans ((Below.refl _ _).mono Ha.size)⟩)
  first
  | have qqm:=qqm
    have HN:=Lib.hid hn;(have gn:(nn==0)=false:=by simp;omega);clear dg hn;obtain rfl:r=false:=by rw[HR.out];simp[mayF,HN.out]
    go_enter func149,ntmps149
  | rw[decide_eq_false hs]at fU cW
    simp only[Bool.not_false]at cW;have HS:=Lib.hid hs;clear hs;(obtain rfl:r=false:=by rw[HR.out];simp[mayF,HS.out]);go_enter func145,ntmps145
  exact Z5g_
 by_cases h8:kd=8
 ·subst h8;obtain rfl:k=8:=by rw[←hk];rfl
  clear hk Hp gm oO B5 gl rf;first|(have qqm:=qqm;by_cases hn:nd≤1)|(by_cases hs:sl=0)
  ·first
   | have qqm:=qqm
     have HN:=Lib.hid hn;(have gn:nn≤1:=by omega);clear dg hn
     by_cases hs:sl=0
   | rw[decide_eq_true hs]at fU cW
     simp only[Bool.not_true]at cW;have HS:=Lib.hid hs;(have gs:¬(4096:Int)<(sl:Int):=by omega);clear hs;by_cases hn:nd≤1
   ·first
    | have qqm:=qqm
      rw[decide_eq_true hs]at fU;have HS:=Lib.hid hs;clear hs;obtain rfl:r=true:=by rw[HR.out];simp[mayF,HN.out,HS.out]
      go_enter func149,ntmps149
    | have fQ:=Lib.hid hn
      (have gn:nn≤1:=by omega);clear dg hn;(obtain rfl:r=true:=by rw[HR.out];simp[mayF,fQ.out,HS.out]);go_enter func145,ntmps145
    exact Z5g_
   first
   | have qqm:=qqm
     rw[decide_eq_false hs]at fU;have HS:=Lib.hid hs;clear hs;obtain rfl:r=false:=by rw[HR.out];simp[mayF,HN.out,HS.out]
     go_enter func149,ntmps149
   | have fQ:=Lib.hid hn
     (have gn:¬nn≤1:=by omega);clear dg hn;(obtain rfl:r=false:=by rw[HR.out];simp[mayF,fQ.out,HS.out]);go_enter func145,ntmps145
   exact Z5g_
  first
  | have qqm:=qqm
    have HN:=Lib.hid hn;(have gn:¬nn≤1:=by omega);clear dg hn;obtain rfl:r=false:=by rw[HR.out];simp[mayF,HN.out]
    go_enter func149,ntmps149
  | rw[decide_eq_false hs]at fU cW
    simp only[Bool.not_false]at cW;have HS:=Lib.hid hs;clear hs;(obtain rfl:r=false:=by rw[HR.out];simp[mayF,HS.out]);go_enter func145,ntmps145
  exact Z5g_
 by_cases h2:kd=2
 ·subst h2;obtain rfl:k=2:=by rw[←hk];rfl
  clear hk Hp gm oO B5 gl rf;first|(have qqm:=qqm;by_cases hn:nd≤255)|(by_cases hs:sl=0)
  ·first
   | have qqm:=qqm
     have HN:=Lib.hid hn;(have gn:nn≤255:=by omega);clear dg hn
     by_cases hs:sl=0
   | rw[decide_eq_true hs]at fU cW
     simp only[Bool.not_true]at cW;have HS:=Lib.hid hs;(have gs:¬(4096:Int)<(sl:Int):=by omega);clear hs;by_cases hn:nd≤255
   ·first
    | have qqm:=qqm
      rw[decide_eq_true hs]at fU;have HS:=Lib.hid hs;clear hs;obtain rfl:r=true:=by rw[HR.out];simp[mayF,HN.out,HS.out]
      go_enter func149,ntmps149
    | have fQ:=Lib.hid hn
      (have gn:nn≤255:=by omega);clear dg hn;(obtain rfl:r=true:=by rw[HR.out];simp[mayF,fQ.out,HS.out]);go_enter func145,ntmps145
    exact Z5g_
   first
   | have qqm:=qqm
     rw[decide_eq_false hs]at fU;have HS:=Lib.hid hs;clear hs;obtain rfl:r=false:=by rw[HR.out];simp[mayF,HN.out,HS.out]
     go_enter func149,ntmps149
   | have fQ:=Lib.hid hn
     (have gn:¬nn≤255:=by omega);clear dg hn;(obtain rfl:r=false:=by rw[HR.out];simp[mayF,fQ.out,HS.out]);go_enter func145,ntmps145
   exact Z5g_
  first
  | have qqm:=qqm
    have HN:=Lib.hid hn;(have gn:¬nn≤255:=by omega);clear dg hn;obtain rfl:r=false:=by rw[HR.out];simp[mayF,HN.out]
    go_enter func149,ntmps149
  | rw[decide_eq_false hs]at fU cW
    simp only[Bool.not_false]at cW;have HS:=Lib.hid hs;clear hs;(obtain rfl:r=false:=by rw[HR.out];simp[mayF,HS.out]);go_enter func145,ntmps145
  exact Z5g_
 by_cases EC:kd=49
 ·subst EC;obtain rfl:k=49:=by rw[←hk];rfl
  clear hk Hp gm oO B5 gl rf;clear dg;by_cases hs:sl=0
  ·first
   | have qqm:=qqm
     rw[decide_eq_true hs]at fU
   | rw[decide_eq_true hs]at fU cW
     simp only[Bool.not_true]at cW
   have HS:=Lib.hid hs;(first|done|(have qqm:=qqm)|(have gs:¬(4096:Int)<(sl:Int):=by omega));clear hs;(obtain rfl:r=true:=by rw[HR.out];simp[mayF,HS.out]);(first|(have qqm:=qqm;go_enter func149,ntmps149)|(go_enter func145,ntmps145));exact Z5g_
  first
  | have qqm:=qqm
    rw[decide_eq_false hs]at fU
  | rw[decide_eq_false hs]at fU cW
    simp only[Bool.not_false]at cW
  have HS:=Lib.hid hs;clear hs;obtain rfl:r=false:=by rw[HR.out];simp[mayF,HS.out]
  first|(have qqm:=qqm;go_enter func149,ntmps149)|(go_enter func145,ntmps145)
  exact Z5g_
 by_cases Gh:kd=50
 ·subst Gh;obtain rfl:k=50:=by rw[←hk];rfl
  clear hk Hp gm oO B5 gl rf;clear dg;by_cases hs:sl=0
  ·first
   | have qqm:=qqm
     rw[decide_eq_true hs]at fU
   | rw[decide_eq_true hs]at fU cW
     simp only[Bool.not_true]at cW
   have HS:=Lib.hid hs;(first|done|(have qqm:=qqm)|(have gs:¬(4096:Int)<(sl:Int):=by omega));clear hs;(obtain rfl:r=true:=by rw[HR.out];simp[mayF,HS.out]);(first|(have qqm:=qqm;go_enter func149,ntmps149)|(go_enter func145,ntmps145));exact Z5g_
  first
  | have qqm:=qqm
    rw[decide_eq_false hs]at fU
  | rw[decide_eq_false hs]at fU cW
    simp only[Bool.not_false]at cW
  have HS:=Lib.hid hs;clear hs;obtain rfl:r=false:=by rw[HR.out];simp[mayF,HS.out]
  first|(have qqm:=qqm;go_enter func149,ntmps149)|(go_enter func145,ntmps145)
  exact Z5g_
 by_cases pL:kd=149
 ·subst pL;obtain rfl:k=149:=by rw[←hk];rfl
  clear hk Hp gm oO B5 gl rf;first|(have qqm:=qqm;by_cases hn:nd=0)|(by_cases hs:sl≤4096)
  ·first
   | have qqm:=qqm
     have HN:=Lib.hid hn;(have gn:(nn==0)=true:=by simp;omega);clear dg hn
     by_cases hs:sl≤4096
   | have HS:=Lib.hid hs
     (have gs:¬(4096:Int)<(sl:Int):=by omega);clear hs
     cases pl
     ·(obtain rfl:r=false:=by rw[HR.out];simp[mayF,HS.out]);go_enter func145,ntmps145;go_upto_region 1 with fail;rw[←Hg,←Hi];clear Hg Hi;go_wp2_with(with_reducible refine h_A ?_);refine ek.mono ?_;rintro e w2 ⟨rfl,rfl⟩;go_wp2_with(with_reducible refine h_A ?_);go_ret;exact⟨rfl,Ha⟩
   ·first
    | have qqm:=qqm
      have HS:=Lib.hid hs;(have gs:(sl:Int)≤4096:=by omega);clear hs
      cases pl
    | by_cases hn:nd=0
    ·first
     | have qqm:=qqm
       obtain rfl:r=false:=by rw[HR.out];simp[mayF,HN.out,HS.out]
       go_enter func149,ntmps149
     | have fQ:=Lib.hid hn
       (have gn:(nn !=0)=false:=by simp;omega);(have AX:(nn==0)=true:=by simp;omega);clear dg hn;(obtain rfl:r=true:=by rw[HR.out];simp[mayF,HS.out,fQ.out]);go_enter func145,ntmps145
     go_upto_region 1 with fail;rw[←Hg,←Hi];clear Hg Hi;go_wp2_with(with_reducible refine h_A ?_);refine ek.mono ?_;(first|(have qqm:=qqm;(rintro e w2 ⟨rfl,Hc⟩))|((rintro e w2 ⟨rfl,rfl⟩)));go_wp2_with(with_reducible refine h_A ?_)
     first
     | have qqm:=qqm
       go_ret
       exact⟨rfl,Ha.trans (Hc.mono Ha.size)⟩
     | clear c0 c1 c2 c3 c4
       go_loopw [5] (fun s4 wr=>s4= .int .i64 0∧Below w1.heap.size w1 wr) (fun _ _=>0)
       case atStart=>exact⟨rfl,Below.refl _ _⟩
       case round=>
        exact Z4d_
    first
    | have qqm:=qqm
      obtain rfl:r=true:=by rw[HR.out];simp[mayF,HN.out,HS.out]
      go_enter func149,ntmps149
    | have fQ:=Lib.hid hn
      (have gn:(nn !=0)=true:=by simp;omega);(have AX:(nn==0)=false:=by simp;omega);clear dg hn;(obtain rfl:r=false:=by rw[HR.out];simp[mayF,HS.out,fQ.out]);go_enter func145,ntmps145
    go_upto_region 1 with fail;rw[←Hg,←Hi];clear Hg Hi;go_wp2_with(with_reducible refine h_A ?_);refine ek.mono ?_;(first|(have qqm:=qqm;(rintro e w2 ⟨rfl,Hc⟩))|((rintro e w2 ⟨rfl,rfl⟩)));go_wp2_with(with_reducible refine h_A ?_);go_ret;first|(have qqm:=qqm;exact⟨rfl,Ha.trans (Hc.mono Ha.size)⟩)|(exact⟨rfl,Ha.trans ((Below.refl _ _).mono Ha.size)⟩)
   first
   | have qqm:=qqm
     ·have qqia:=()
      exact Z41_
   | skip
  first
  | have qqm:=qqm
    have HN:=Lib.hid hn;(have gn:(nn==0)=false:=by simp;omega);clear dg hn;obtain rfl:r=false:=by rw[HR.out];simp[mayF,HN.out]
    go_enter func149,ntmps149
  | have HS:=Lib.hid hs
    (have gs:(4096:Int)<(sl:Int):=by omega);clear hs;(obtain rfl:r=false:=by rw[HR.out];simp[mayF,HS.out]);go_enter func145,ntmps145
  exact Z5g_
 by_cases pV:kd=160
 ·subst pV;obtain rfl:k=160:=by rw[←hk];rfl
  clear hk Hp gm oO B5 gl rf;first|(have qqm:=qqm;by_cases hn:nd=0)|(by_cases hs:sl≤4096)
  ·first
   | have qqm:=qqm
     have HN:=Lib.hid hn;(have gn:(nn==0)=true:=by simp;omega);clear dg hn
     by_cases hs:sl≤4096
   | have HS:=Lib.hid hs
     (have gs:¬(4096:Int)<(sl:Int):=by omega);clear hs;by_cases hn:nd=0
   ·first
    | have qqm:=qqm
      have HS:=Lib.hid hs;(have gs:(sl:Int)≤4096:=by omega);clear hs;obtain rfl:r=true:=by rw[HR.out];simp[mayF,HN.out,HS.out]
      go_enter func149,ntmps149
    | have fQ:=Lib.hid hn
      (have gn:(nn !=0)=false:=by simp;omega);(have AX:(nn==0)=true:=by simp;omega);clear dg hn;(obtain rfl:r=true:=by rw[HR.out];simp[mayF,HS.out,fQ.out]);go_enter func145,ntmps145
    go_upto_region 1 with fail;rw[←Hg,←Hi];clear Hg Hi;go_wp2_with(with_reducible refine h_A ?_)
    first
    | have qqm:=qqm
      go_ret
      exact⟨rfl,Ha⟩
    | clear c0 c1 c2 c3 c4
      go_loopw [5] (fun s4 wr=>s4= .int .i64 0∧Below w1.heap.size w1 wr) (fun _ _=>0)
      case atStart=>exact⟨rfl,Below.refl _ _⟩
      case round=>
       exact Z4d_
   first
   | have qqm:=qqm
     have HS:=Lib.hid hs;(have gs:¬(sl:Int)≤4096:=by omega);clear hs;obtain rfl:r=false:=by rw[HR.out];simp[mayF,HN.out,HS.out]
     go_enter func149,ntmps149
   | have fQ:=Lib.hid hn
     (have gn:(nn !=0)=true:=by simp;omega);(have AX:(nn==0)=false:=by simp;omega);clear dg hn;(obtain rfl:r=false:=by rw[HR.out];simp[mayF,HS.out,fQ.out]);go_enter func145,ntmps145
   go_upto_region 1 with fail;rw[←Hg,←Hi];clear Hg Hi;go_wp2_with(with_reducible refine h_A ?_);go_ret;first|(have qqm:=qqm;exact⟨rfl,Ha⟩)|(exact⟨rfl,Ha.trans ((Below.refl _ _).mono Ha.size)⟩)
  first
  | have qqm:=qqm
    have HN:=Lib.hid hn;(have gn:(nn==0)=false:=by simp;omega);clear dg hn;obtain rfl:r=false:=by rw[HR.out];simp[mayF,HN.out]
    go_enter func149,ntmps149
  | have HS:=Lib.hid hs
    (have gs:(4096:Int)<(sl:Int):=by omega);clear hs;(obtain rfl:r=false:=by rw[HR.out];simp[mayF,HS.out]);go_enter func145,ntmps145
  exact Z5g_
 have Il:(k==240)=false:=by simp;omega
 have g8:(k==8)=false:=by simp;omega
 have g2:(k==2)=false:=by simp;omega
 have T7:(k==49)=false:=by simp;omega
 have TC:(k==50)=false:=by simp;omega
 have Ip:(k==149)=false:=by simp;omega
 have I5:(k==160)=false:=by simp;omega
 have At:=Lib.hid p9;have H8:=Lib.hid h8;have H2:=Lib.hid h2;have NR:=Lib.hid EC;have N5:=Lib.hid Gh;have AG:=Lib.hid pL;have AO:=Lib.hid pV;have La:=Lib.hid Hp;have N7:=Lib.hid B5;clear hk Hp B5 dg p9 h8 h2 EC Gh pL pV
 first
 | have qqm:=qqm
   (obtain rfl:r=false:=by rw[HR.out];simp[mayF,At.out,H8.out,H2.out,NR.out,N5.out,AG.out,AO.out,La.out,N7.out]);go_enter func149,ntmps149;go_upto_region 1 with fail;rw[←Hg,←Hi];clear Hg Hi;go_wp2_with(with_reducible refine h_A ?_);go_ret
   exact⟨rfl,Ha⟩
 | by_cases hs:sl=0
   ·exact Z41_
   ·have qqi9:=()
    exact Z41_):p:=h
theorem Z44_(h:p:=by
 first|(have qqio:=qqio;have mD:Hid (zF (L0.drop j)=2*fl):=Lib.hid (by rw[HF.out];simp))|(have mD:Hid (zF (L0.drop j)=2*fl+1):=Lib.hid (by rw[HF.out];simp;omega))
 clear HF;go_wp2_with(with_reducible refine h_A ?_)
 exact⟨⟨j,(j:Int)-1,by omega,rfl,by rw[mD.out];first|rfl|(congr;omega),by go_num,bS,bA,bF,bH⟩,by first|(simp[RowKit.intOf];done)|(simp[RowKit.intOf];omega)⟩):p:=h
theorem Z61_(h:p:=by
 go_wp2_with(with_reducible refine h_A ?_);go_ret2
 exact⟨none,0,rfl,Own.none_ _ _ _ _,bH⟩):p:=h
theorem Z5_(h:p:=by
 first
 | have qq1r:=qq1r
   (have g1:¬(2:Int)<(cls:Int):=by omega);have bS:=fE;have bA:=nT;have bF:=ta;have bH:=hBa
   obtain⟨H,hH⟩:∃H,H=[UInt8.ofNat cls,UInt8.ofNat cod]:=⟨_,rfl⟩
 | have qq1q:=qq1q
   have gg:=yq (w:=w6) w6.heap.size #[.int .u8 1,.int .u8 1] 5 2 (Nat.le_refl _) WX (size:=1) rfl Wq;have t4:RdB (w6.alloc (.cells #[.int .u8 1,.int .u8 1] 5)) (w6.alloc (.cells #[.int .u8 1,.int .u8 1] 5)).heap.size (some ⟨w6.heap.size,0,none⟩) 2 2 [1,1]:=gg.rd;have cR:OwnB (w6.alloc (.cells #[.int .u8 1,.int .u8 1] 5)) (rb+1) (some ⟨lb,0,none⟩) 2 2 [UInt8.ofNat cls,UInt8.ofNat cod]:=fE.alloc _;have Dv:=nT.alloc (.cells #[.int .u8 1,.int .u8 1] 5);have En:=ta.alloc (.cells #[.int .u8 1,.int .u8 1] 5);have l7:=hBa.alloc hBa.size (.cells #[.int .u8 1,.int .u8 1] 5);have lP:=ta.lt;go_wp2_with(with_reducible refine h_A ?_);refine zc (yc slB rfl rfl rfl rfl cR t4 (zM _) Wq Hj (by have:=En.lt;omega) ?_);intro A6 c6 w7 bS H9 _;have bA:=Dv.grown H9 Mq;have bF:=En.grown H9 Mq;have bH:=l7.grown H9 l7.size (fun g hg=>by have:=(cR.blk_lt hg).1;omega);rw[←List.map_append]at bS;clear x0 x1 x2 x3 fE gg t4 cR nT ta hBa Dv En l7 H9
   obtain⟨H,hH⟩:∃H,H=[UInt8.ofNat cls,UInt8.ofNat cod]++ [1,1]:=⟨_,rfl⟩
 | have gg:=yq (w:=w6) w6.heap.size #[.int .u8 1,.int .u8 0] 5 2 (Nat.le_refl _) WX (size:=1) rfl Wq
   have t4:RdB (w6.alloc (.cells #[.int .u8 1,.int .u8 0] 5)) (w6.alloc (.cells #[.int .u8 1,.int .u8 0] 5)).heap.size (some ⟨w6.heap.size,0,none⟩) 2 2 [1,0]:=gg.rd;have cR:OwnB (w6.alloc (.cells #[.int .u8 1,.int .u8 0] 5)) (rb+1) (some ⟨lb,0,none⟩) 2 2 [UInt8.ofNat cls,UInt8.ofNat cod]:=fE.alloc _;have Dv:=nT.alloc (.cells #[.int .u8 1,.int .u8 0] 5);have En:=ta.alloc (.cells #[.int .u8 1,.int .u8 0] 5);have l7:=hBa.alloc hBa.size (.cells #[.int .u8 1,.int .u8 0] 5);have lP:=ta.lt;go_wp2_with(with_reducible refine h_A ?_);refine zc (yc slB rfl rfl rfl rfl cR t4 (zM _) Wq Hj (by have:=En.lt;omega) ?_);intro A6 c6 w7 bS H9 _;have bA:=Dv.grown H9 Mq;have bF:=En.grown H9 Mq;have bH:=l7.grown H9 l7.size (fun g hg=>by have:=(cR.blk_lt hg).1;omega);rw[←List.map_append]at bS;clear x0 x1 x2 x3 fE gg t4 cR nT ta hBa Dv En l7 H9;obtain⟨H,hH⟩:∃H,H=[UInt8.ofNat cls,UInt8.ofNat cod]++ [1,0]:=⟨_,rfl⟩
 rw[←hH]at bS
 first
 | have qq1r:=qq1r
   have HH:Hid (H=hd0 cls cod sy):=Lib.hid (by rw[hH];unfold hd0;rw[if_pos dN];simp);have MA:H.length=2:=by rw[hH];rfl
   clear hH fE nT ta hBa x0 x1 x2 x3
 | have qq1q:=qq1q
   have HH:Hid (H=hd0 cls cod true):=Lib.hid (by rw[hH];unfold hd0;rw[if_neg dN];rfl);have MA:H.length=4:=by rw[hH];rfl
   clear hH
 | have HH:Hid (H=hd0 cls cod false):=Lib.hid (by rw[hH];unfold hd0;rw[if_neg dN];rfl)
   (have MA:H.length=4:=by rw[hH];rfl);clear hH
 have x0:=bA.c0;have x1:=bA.c1;have x2:=bA.c2;have x3:=bA.c3;go_wp2_with(with_reducible refine h_A ?_);clear x0 x1 x2 x3
 first
 | have qq1r:=qq1r
   go_loopw [7,8] (fun s7 s8 wr=>∃(k:Nat) (i:Int),k≤n∧i=(k:Int)-1∧s7= .int .u8 ((zF (L0.drop k):Nat):Int)∧s8= .int .i64 i∧OwnB wr (rb+1) (some ⟨lb,0,none⟩) 2 2 H∧Box wr xb 106 #[.int .u8 (cls:Int),.int .u8 (cod:Int),.bool sy,.slice A n c]∧Box wr rb 127 #[.int .u8 (rw_c:Int),.int .u8 (rw_k:Int),.string (str rw_n),.string (str kd)]∧Below w.heap.size w wr) (fun _ s8 _=>(RowKit.intOf s8+1).toNat)
 | have qq1q:=qq1q
   go_loopw [7,8] (fun s7 s8 wr=>∃(k:Nat) (i:Int),k≤n∧i=(k:Int)-1∧s7= .int .u8 ((zF (L0.drop k):Nat):Int)∧s8= .int .i64 i∧OwnB wr (rb+1) A6 4 c6 H∧Box wr xb 106 #[.int .u8 (cls:Int),.int .u8 (cod:Int),.bool true,.slice A n c]∧Box wr rb 127 #[.int .u8 (rw_c:Int),.int .u8 (rw_k:Int),.string (str rw_n),.string (str kd)]∧Below w.heap.size w wr) (fun _ s8 _=>(RowKit.intOf s8+1).toNat)
 | go_loopw [7,8] (fun s7 s8 wr=>∃(k:Nat) (i:Int),k≤n∧i=(k:Int)-1∧s7= .int .u8 ((zF (L0.drop k):Nat):Int)∧s8= .int .i64 i∧OwnB wr (rb+1) A6 4 c6 H∧Box wr xb 106 #[.int .u8 (cls:Int),.int .u8 (cod:Int),.bool false,.slice A n c]∧Box wr rb 127 #[.int .u8 (rw_c:Int),.int .u8 (rw_k:Int),.string (str rw_n),.string (str kd)]∧Below w.heap.size w wr) (fun _ s8 _=>(RowKit.intOf s8+1).toNat)
 case atStart=>exact⟨n,(n:Int)-1,by omega,rfl,by rw[List.drop_eq_nil_of_le AL];rfl,by first|rfl|go_num,bS,bA,bF,bH⟩
 clear bS bA bF bH;obtain⟨k,i,hk,mg,rfl,rfl,bS,bA,bF,bH⟩:=hrel
 cases k with
 | succ j=>
  obtain rfl:i=(j:Int):=by omega
  have g0:(0:Int)≤(j:Int):=by omega
  have g9:(j:Int)<(n:Int):=by omega
  have Da:j<m.args.length:=by rw[←HN.out];omega
  obtain⟨ab,aoff,hx,hA,_,lm⟩:=tC.out j Da;have z0:wr.cell? ⟨ab,aoff+j*12,none⟩=_:=lm wr bH 0 _ rfl;have HF:Hid (zF (L0.drop j)=(if m.args[j].is then 1 else 0)+2*zF (L0.drop (j+1))):=Lib.hid (by rw[RR.out j Da,zF];rfl)
  have dm:zF (L0.drop (j+1))<8:=by
   have h1:=xq (L0.drop (j+1));have h2:2 ^ (L0.drop (j+1)).length≤2 ^ 3:=Nat.pow_le_pow_right Wq mz;omega
  clear lm mg;generalize m.args[j].is=ais at*;generalize zF (L0.drop (j+1))=fl at*;subst hA;have x0:=bA.c0;have x1:=bA.c1;have x2:=bA.c2;have x3:=bA.c3
  cases ais
  ·have qqio:=();exact Z44_
  exact Z44_
 | zero=>
  obtain rfl:i= -1:=by omega
  have dm:zF L0<8:=by
   have h1:=xq L0;have h2:2 ^ L0.length≤2 ^ 3:=Nat.pow_le_pow_right Wq Wq;omega
  rw[List.drop_zero];generalize zF L0=fl at*;have BD:=yq (w:=wr) wr.heap.size #[.int .u8 0,.int .u8 (fl:Int)] 5 2 (Nat.le_refl _) WX (size:=1) rfl Wq;have eln: #[Value.int .u8 0,.int .u8 (fl:Int)].toList=[0,UInt8.ofNat fl].map u8v:=by simp[u8v,Nat.mod_eq_of_lt (show fl<256 by omega)]
  rw[eln]at BD;have oM:RdB (wr.alloc (.cells #[.int .u8 0,.int .u8 (fl:Int)] 5)) (wr.alloc (.cells #[.int .u8 0,.int .u8 (fl:Int)] 5)).heap.size (some ⟨wr.heap.size,0,none⟩) 2 2 [0,UInt8.ofNat fl]:=BD.rd;first|(have qq1r:=qq1r;have dJ:OwnB (wr.alloc (.cells #[.int .u8 0,.int .u8 (fl:Int)] 5)) (rb+1) (some ⟨lb,0,none⟩) 2 2 H:=bS.alloc _)|(have dJ:OwnB (wr.alloc (.cells #[.int .u8 0,.int .u8 (fl:Int)] 5)) (rb+1) A6 4 c6 H:=bS.alloc _)
  have Bp:=bA.alloc (.cells #[.int .u8 0,.int .u8 (fl:Int)] 5);have BJ:=bF.alloc (.cells #[.int .u8 0,.int .u8 (fl:Int)] 5);have Bq:=bH.alloc bH.size (.cells #[.int .u8 0,.int .u8 (fl:Int)] 5);have iB:rb+1≤(wr.alloc (.cells #[.int .u8 0,.int .u8 (fl:Int)] 5)).heap.size:=BJ.lt;clear bS bA bF bH BD eln mg;go_wp2_with(with_reducible refine h_A ?_);refine zc (yc slB rfl rfl rfl rfl dJ oM (zM _) Wq Hj iB ?_);intro A8 c8 w8 dS H5 _;have cp:=Bp.grown H5 (by intro e;have:=(dJ.blk_lt e.symm).1;omega);have BR:=BJ.grown H5 (by intro e;have:=(dJ.blk_lt e.symm).1;omega);have Be:=Bq.grown H5 Bq.size (fun g hg=>by have:=(dJ.blk_lt hg).1;omega);rw[←List.map_append]at dS;obtain⟨H2,uD⟩:∃H2,H2=H++ [0,UInt8.ofNat fl]:=⟨_,rfl⟩
  rw[←uD]at dS;first|(have qq1r:=qq1r;have Md:Hid (kF cls cod sy fl=H2):=Lib.hid (by rw[Y1 _ _ _ _ Wq,uD,HH.out]))|(have qq1q:=qq1q;have Md:Hid (kF cls cod true fl=H2):=Lib.hid (by rw[Y1 _ _ _ _ Wq,uD,HH.out]))|(have Md:Hid (kF cls cod false fl=H2):=Lib.hid (by rw[Y1 _ _ _ _ Wq,uD,HH.out]))
  clear uD dJ Bp BJ Bq H5 oM HH MA;have x0:=cp.c0;have x1:=cp.c1;have x2:=cp.c2;have x3:=cp.c3;go_wp2_with(with_reducible refine h_A ?_);clear x0 x1 x2 x3
  first
  | have qq1r:=qq1r
    go_loopw [6,9] (fun s6 s9 wr=>∃(k n6 c6:Nat) (A6:Option Addr),k≤n∧s6= .slice A6 n6 c6∧s9= .int .i64 (k:Int)∧OwnB wr (rb+1) A6 n6 c6 (H2++(List.range k).flatMap (byI m))∧n6≤10+2000000*k∧Box wr xb 106 #[.int .u8 (cls:Int),.int .u8 (cod:Int),.bool sy,.slice A n c]∧Box wr rb 127 #[.int .u8 (rw_c:Int),.int .u8 (rw_k:Int),.string (str rw_n),.string (str kd)]∧Below w.heap.size w wr∧Hid (∀j,j<k→okI m j=true)) (fun _ s9 _=>n-(RowKit.intOf s9).toNat)
  | have qq1q:=qq1q
    go_loopw [6,9] (fun s6 s9 wr=>∃(k n6 c6:Nat) (A6:Option Addr),k≤n∧s6= .slice A6 n6 c6∧s9= .int .i64 (k:Int)∧OwnB wr (rb+1) A6 n6 c6 (H2++(List.range k).flatMap (byI m))∧n6≤10+2000000*k∧Box wr xb 106 #[.int .u8 (cls:Int),.int .u8 (cod:Int),.bool true,.slice A n c]∧Box wr rb 127 #[.int .u8 (rw_c:Int),.int .u8 (rw_k:Int),.string (str rw_n),.string (str kd)]∧Below w.heap.size w wr∧Hid (∀j,j<k→okI m j=true)) (fun _ s9 _=>n-(RowKit.intOf s9).toNat)
  | go_loopw [6,9] (fun s6 s9 wr=>∃(k n6 c6:Nat) (A6:Option Addr),k≤n∧s6= .slice A6 n6 c6∧s9= .int .i64 (k:Int)∧OwnB wr (rb+1) A6 n6 c6 (H2++(List.range k).flatMap (byI m))∧n6≤10+2000000*k∧Box wr xb 106 #[.int .u8 (cls:Int),.int .u8 (cod:Int),.bool false,.slice A n c]∧Box wr rb 127 #[.int .u8 (rw_c:Int),.int .u8 (rw_k:Int),.string (str rw_n),.string (str kd)]∧Below w.heap.size w wr∧Hid (∀j,j<k→okI m j=true)) (fun _ s9 _=>n-(RowKit.intOf s9).toNat)
  case atStart=>exact⟨0,_,c8,A8,by omega,rfl,rfl,by simpa using dS,by omega,cp,BR,Be,Lib.hid (fun j hj=>by omega)⟩
  clear dS cp BR Be;obtain⟨k,n6,c9,A9,hk,rfl,rfl,bS,rH,bA,bF,bH,BA⟩:=hrel;by_cases hlt:k<n
  ·(have gf:(k:Int)<(n:Int):=by omega);(have eg:k<kd.length:=by omega);(have M3:k<(str kd).size:=by rw[dr];exact eg);(have uc:k<m.args.length:=by rw[←HN.out];exact hlt);obtain⟨ab,aoff,hx,hA,eF,C0⟩:=tC.out k uc;(have gN:=fun(W:World) (hW:Below w.heap.size w W)=>D9.out k uc eg hx W (eF.up hW));have l6:Hid (okI m k=false→RES=[]∧E=80):=Lib.hid (cN.out k hlt)
   have mU:Hid (∀ok,ok=okI m k→ok=true→∀j,j<k+1→okI m j=true):=Lib.hid (fun ok h1 h2 j hj=>by
    by_cases e:j=k
    ·subst e;rw[←h1,h2]
    ·exact BA.out j Wq)
   have IT:Hid (H2++(List.range (k+1)).flatMap (byI m)=(H2++(List.range k).flatMap (byI m))++byI m k):=Lib.hid (by rw[List.range_succ,List.flatMap_append];simp);have ek:=GN.out k;(obtain⟨okk,gx⟩:∃o,o=okI m k:=⟨_,rfl⟩);rw[←gx]at gN l6;have oT:Hid (okk=true→∀j,j<k+1→okI m j=true):=Lib.hid (mU.out okk gx);clear eF mU gx;generalize m.args[k]=a at*;generalize(H2++(List.range k).flatMap (byI m))=J at*;subst hA;unfold agV at gN;have ib:=bF.lt;have x0:=bA.c0;have x1:=bA.c1;have x2:=bA.c2;have x3:=bA.c3;go_upto_region 20 with fail;clear x0 x1 x2 x3
   first
   | have qq1r:=qq1r
     refine zt (fun W:World=>Box W xb 106 #[.int .u8 (cls:Int),.int .u8 (cod:Int),.bool sy,.slice (some ⟨ab,aoff,none⟩) n c]∧Box W rb 127 #[.int .u8 (rw_c:Int),.int .u8 (rw_k:Int),.string (str rw_n),.string (str kd)]∧Below w.heap.size w W) Wj ?_
     have hS:Box wr.drew xb 106 #[.int .u8 (cls:Int),.int .u8 (cod:Int),.bool sy,.slice (some ⟨ab,aoff,none⟩) n c]∧Box wr.drew rb 127 #[.int .u8 (rw_c:Int),.int .u8 (rw_k:Int),.string (str rw_n),.string (str kd)]∧Below w.heap.size w wr.drew:=⟨bA,bF,za bH 1⟩
   | have qq1q:=qq1q
     refine zt (fun W:World=>Box W xb 106 #[.int .u8 (cls:Int),.int .u8 (cod:Int),.bool true,.slice (some ⟨ab,aoff,none⟩) n c]∧Box W rb 127 #[.int .u8 (rw_c:Int),.int .u8 (rw_k:Int),.string (str rw_n),.string (str kd)]∧Below w.heap.size w W) Wj ?_
     have hS:Box wr.drew xb 106 #[.int .u8 (cls:Int),.int .u8 (cod:Int),.bool true,.slice (some ⟨ab,aoff,none⟩) n c]∧Box wr.drew rb 127 #[.int .u8 (rw_c:Int),.int .u8 (rw_k:Int),.string (str rw_n),.string (str kd)]∧Below w.heap.size w wr.drew:=⟨bA,bF,za bH 1⟩
   | refine zt (fun W:World=>Box W xb 106 #[.int .u8 (cls:Int),.int .u8 (cod:Int),.bool false,.slice (some ⟨ab,aoff,none⟩) n c]∧Box W rb 127 #[.int .u8 (rw_c:Int),.int .u8 (rw_k:Int),.string (str rw_n),.string (str kd)]∧Below w.heap.size w W) Wj ?_
     have hS:Box wr.drew xb 106 #[.int .u8 (cls:Int),.int .u8 (cod:Int),.bool false,.slice (some ⟨ab,aoff,none⟩) n c]∧Box wr.drew rb 127 #[.int .u8 (rw_c:Int),.int .u8 (rw_k:Int),.string (str rw_n),.string (str kd)]∧Below w.heap.size w wr.drew:=⟨bA,bF,za bH 1⟩
   have dJ:OwnB wr.drew (rb+1) A9 n6 c9 J:=Own.drewN bS 1;have iB:rb<wr.drew.heap.size:=ib;clear bA bF bH bS ib;generalize wr.drew=wd at*;refine rg_t 0 hS ?_;simp only[List.getElem_toArray,List.getElem_cons_zero,Act.put,List.setIfInBounds_toArray,List.set_cons_zero,List.set_cons_succ];refine ze 1 (v:=?_) rfl Wj Wj Wj hS rfl ?_ ?_;rotate_left
   ·intro wS He;have k3:=He.2.1.cell (j:=3) rfl;go_simp;(with_reducible rfl)
   simp only[g_S];refine rg_t 2 hS ?_;simp only[g_S];refine rg_t 3 hS ?_;simp only[g_S];refine rg_t 4 hS ?_;simp only[g_S];refine ze 5 (v:=?_) rfl Wj Wj Wj hS rfl ?_ ?_;rotate_left
   ·intro wS He;have k3:=He.1.cell (j:=3) rfl;go_simp;(with_reducible rfl)
   simp only[g_S];refine rg_t 6 hS ?_;simp only[g_S];refine rg_t 7 hS ?_;simp only[g_S];refine ze 8 (v:=?_) rfl Wj Wj Wj hS rfl ?_ ?_;rotate_left
   ·intro wS He;have fc:=C0 _ He.2.2;have k_0:=fc 0 _ rfl;have k_1:=fc 1 _ rfl;have k_2:=fc 2 _ rfl;have k_3:=fc 3 _ rfl;have k_4:=fc 4 _ rfl;have k_5:=fc 5 _ rfl;have k_6:=fc 6 _ rfl;have k_7:=fc 7 _ rfl;have k_8:=fc 8 _ rfl;have k_9:=fc 9 _ rfl;have k_10:=fc 10 _ rfl;have k_11:=fc 11 _ rfl;simp only[Nat.add_zero]at k_0;clear fc;go_simp;(with_reducible rfl)
   simp only[g_S];refine zj 9 rfl Wj rfl (fun K hK=>?_);go_simp;refine(gN wd hS.2.2).mono ?_;rintro e w9 ⟨AC,nC,cC,rfl,Bh,nK⟩;obtain⟨Bp,BJ,Bq⟩:=hS
   first
   | have qq1r:=qq1r
     have hS:Box w9 xb 106 #[.int .u8 (cls:Int),.int .u8 (cod:Int),.bool sy,.slice (some ⟨ab,aoff,none⟩) n c]∧Box w9 rb 127 #[.int .u8 (rw_c:Int),.int .u8 (rw_k:Int),.string (str rw_n),.string (str kd)]∧Below w.heap.size w w9:=⟨Bp.below Bh,BJ.below Bh,Bq.trans (Bh.mono Bq.size)⟩
   | have qq1q:=qq1q
     have hS:Box w9 xb 106 #[.int .u8 (cls:Int),.int .u8 (cod:Int),.bool true,.slice (some ⟨ab,aoff,none⟩) n c]∧Box w9 rb 127 #[.int .u8 (rw_c:Int),.int .u8 (rw_k:Int),.string (str rw_n),.string (str kd)]∧Below w.heap.size w w9:=⟨Bp.below Bh,BJ.below Bh,Bq.trans (Bh.mono Bq.size)⟩
   | have hS:Box w9 xb 106 #[.int .u8 (cls:Int),.int .u8 (cod:Int),.bool false,.slice (some ⟨ab,aoff,none⟩) n c]∧Box w9 rb 127 #[.int .u8 (rw_c:Int),.int .u8 (rw_k:Int),.string (str rw_n),.string (str kd)]∧Below w.heap.size w w9:=⟨Bp.below Bh,BJ.below Bh,Bq.trans (Bh.mono Bq.size)⟩
   have dt:=zi dJ Bh;have Ao:=hS.2.1.lt;clear Bp BJ Bq Bh dJ gN C0 iB;refine hK _ _ hS ?_;clear hK K;(try simp only[g_S]);refine rg_t 10 hS ?_;simp only[g_S];refine rg_t 11 hS ?_;simp only[g_S];refine rg_t 12 hS ?_;simp only[g_S];refine rg_t 13 hS ?_;simp only[g_S];refine rg_t 14 hS ?_;simp only[g_S];refine zD Wj ?_;obtain⟨bA,bF,bH⟩:=hS
   cases okk
   ·obtain⟨e1,e2⟩:=l6.out rfl;subst e1 e2;clear nK;exact Z61_
   obtain⟨rfl,oH⟩:=nK rfl;clear nK;go_wp2_with(with_reducible refine h_A ?_);refine zc (yc slB rfl rfl rfl rfl dt oH.rd (zM _) Wq Hj Wq ?_);intro nt c10 rh eW ed _;have ug:=bA.grown ed (by intro e;have:=(dt.blk_lt e.symm).1;omega);have um:=bF.grown ed (by intro e;have:=(dt.blk_lt e.symm).1;omega);have lO:=bH.grown ed bH.size (fun g hg=>by have:=(dt.blk_lt hg).1;omega);rw[←List.map_append]at eW;clear bA bF bH dt oH ed;go_wp2_with(with_reducible refine h_A ?_);exact⟨⟨k+1,_,c10,nt,by omega,rfl,by go_num,by rw[IT.out];exact eW,by omega,ug,um,lO,Lib.hid (oT.out (by first|rfl|trivial))⟩,by simp[RowKit.intOf];omega⟩
  have lM:k=n:=by omega
  have gf:¬(k:Int)<(n:Int):=by omega
  rw[lM]at bS;obtain⟨eO,hE⟩:=iP.out (fun j hj=>BA.out j Wq);rw[Md.out]at eO;rw[←eO]at bS;obtain rfl:n6=RES.length:=(RdB.length bS.rd).symm;subst hE;clear iP cN BA eO;have x0:=bA.c0;have x1:=bA.c1;have x2:=bA.c2;have x3:=bA.c3;go_wp2_with(with_reducible refine h_A ?_);go_ret2
  exact⟨A9,c9,rfl,bS.base_le Wq,bH⟩):p:=h
theorem Z3u_(h:p:=by
 first
 | have qqhh:=qqhh
   have q1:(100:Int)<(text.length:Int):=by omega
 | have HF:=Lib.hid (show GR=(xd00,0,40) by rw[HG.out,if_neg Wz,if_neg (by rw[bJ];simp)])
   rw[Xd.err_no bJ]at Ba;clear HG bJ;refine(Ba _).mono ?_;rintro e w9 ⟨rfl,Bh⟩;have gu:=gw.below Bh;have gE:=Bq.trans (Bh.mono Bq.size)
 go_wp2_with(first|(with_reducible refine zU ?_)|(with_reducible refine yl ?_)|(with_reducible refine yk ?_)|(with_reducible refine yd ?_)|(with_reducible refine ym (s:=9) (t:=55) ?_)|(with_reducible refine yM ?_))
 first
 | have qqhh:=qqhh
   refine zc (Zq underlying9 rfl rfl (l:=text) rfl 0 100 (.inl ⟨rfl,rfl⟩) (.inr ⟨_,_,rfl,rfl⟩) Wq Wq ?_)
   rw[List.drop_zero]
 | refine zc (zm (v:=.agg zx) (vs:=zx.toList) rfl rfl rfl rfl gu rfl Wj WJ WJ zx rfl ?_)
   intro wz eE BP _;have dc:=Below.grown gE BP (Below.size gE) Wx
 go_wp2_with(with_reducible refine h_A ?_)
 first
 | have qqhh:=qqhh
   go_meet
   case rel=>exact⟨by rw[pf],rfl⟩
 | (try simp only[Exit.inBlock,Exit.then])
   refine zv rfl eE rfl rfl rfl underlying73 rfl Wj rfl ?_;rw[HF.out,Jt]
   exact⟨rfl,dc⟩):p:=h
theorem Z6_(h:p:=by
 have Hr:Below w.heap.size w (w.alloc (.cells zx 73)):=(Below.refl _ _).alloc (Nat.le_refl _) _;have dd:Box (w.alloc (.cells zx 73)) w.heap.size 73 zx:=Box.new _ _ _;have rP:RdB (w.alloc (.cells zx 73)) (w.alloc (.cells zx 73)).heap.size A n c l:=(hr.below Hr).more Hr.size;have td:w.heap.size<(w.alloc (.cells zx 73)).heap.size:=dd.lt;first|(have qq1w:=qq1w;have cS:=yZ A n c l _ rP Wq)|(have cS:=qE A n c l _ rP Wq)
 have cX:l.length=n:=hr.length;have h4:=Jb l;have HG:Hid (getR l=if(getX l).2.2=true then(xd00,0,4)else if(getX l).1.ok=true then((getX l).1,l.length-(getX l).2.1.length,0)else(xd00,0,40)):=Lib.hid rfl
 have HX:Hid (getX l=(⟨(mnum l false 4).1 % 4294967296,(getT (mnum l false 4).2.1 (mnum l false 4).2.2).1,(getT (getT (mnum l false 4).2.1 (mnum l false 4).2.2).2.1 (getT (mnum l false 4).2.1 (mnum l false 4).2.2).2.2).1⟩,
  (getT (getT (mnum l false 4).2.1 (mnum l false 4).2.2).2.1 (getT (mnum l false 4).2.1 (mnum l false 4).2.2).2.2).2)):=Lib.hid rfl
 have d9:=Vg l;generalize getR l=GR at*;first|(have qq1w:=qq1w;have eK:=fun F b W (h:Qrd F W b l false)=>yG h 4 Wq Wq)|(have eK:=fun F v vb W (h:Rdr F W v vb l false)=>yn h 4 Wq Wq)
 generalize mnum l false 4=m1 at*;obtain⟨f,l1,b1⟩:=m1;simp only at eK HX h4;first|(have qq1w:=qq1w;have eS:=fun F b W (h:Qrd F W b l1 b1)=>je h 1 255 Wq Wq Wq Wq)|(have eS:=fun F v vb W (h:Rdr F W v vb l1 b1)=>qF h 1 255 Wq Wq Wq Wq)
 rw[show zT l1 b1 1 255=getT l1 b1 from rfl]at eS;generalize getT l1 b1=m2 at*;obtain⟨s1,l2,b2⟩:=m2;simp only at eS HX;first|(have qq1w:=qq1w;have oV:=fun F b W (h:Qrd F W b l2 b2)=>je h 1 255 Wq Wq Wq Wq)|(have oV:=fun F v vb W (h:Rdr F W v vb l2 b2)=>qF h 1 255 Wq Wq Wq Wq)
 rw[show zT l2 b2 1 255=getT l2 b2 from rfl]at oV;generalize getT l2 b2=m3 at*;obtain⟨s2,l3,b3⟩:=m3;simp only at oV HX;rw[Nat.mod_eq_of_lt h4]at HX;rw[HX.out]at d9 HG;simp only at d9 HG;obtain⟨CP,n7,GW⟩:=d9;have gh:IntKind.u32.wrap ((f:Nat):Int)=(f:Int):=IntWalk.u32_in _ ⟨by omega,by omega⟩;first|(have qq1w:=qq1w;have Ba:=fun W=>Yf ⟨f,s1,s2⟩ W ⟨h4,by show s1.length≤_;omega,by show s2.length≤_;omega⟩)|(have Ba:=fun W=>Xt ⟨f,s1,s2⟩ W ⟨h4,by show s1.length≤_;omega,by show s2.length≤_;omega⟩)
 unfold xdV at Ba;simp only at Ba;clear HX;rw[zcK]at Hr dd cS td;first|(have qq1w:=qq1w;go_enter func139,ntmps139)|(go_enter func159,ntmps159)
 go_wp2_with(with_reducible refine h_A ?_);refine cS.mono ?_;first|(have qq1w:=qq1w;(rintro e w1 ⟨vb,rfl,iu,iL,Ha⟩))|((rintro e w1 ⟨rb,vb,rfl,Ns,iu,iL,Ha⟩))
 have bL:=dd.below Ha;replace Ha:=Hr.trans (Ha.mono Hr.size);first|done|(have qq1w:=qq1w)|(have GX:∀W v l b,Rdr (fun g=>(w.alloc (.cells #[.int .u32 0,.string ⟨#[]⟩,.string ⟨#[]⟩] 73)).heap.size≤g∧g<w1.heap.size) W v (some vb) l b→vb<w1.heap.size:=fun W v l b h=>(h.inF rfl).2)
 generalize(w.alloc (.cells #[.int .u32 0,.string ⟨#[]⟩,.string ⟨#[]⟩] 73)).heap.size=N1 at*;clear cS Hr dd rP;go_wp2_with(with_reducible refine h_A ?_);first|(have qq1w:=qq1w;refine(eK _ _ _ iL).mono ?_)|(refine(eK _ _ _ _ iL).mono ?_)
 rintro e w2 ⟨rfl,Bw,Hm⟩;have bE:=bL.grown Hm (sne Wq);have Hc:=Ha.grown Hm Ha.size Wx;have et:w1.heap.size≤w2.heap.size:=Hm.size;first|(have qq1w:=qq1w;have aw:=Bw.inF.2)|(have aw:=GX _ _ _ _ Bw)
 clear eK iL bL Ha Hm
 first
 | done
 | have qq1w:=qq1w
 | have cU:=Box.new w2 zx 73
   have EH:=bE.alloc (.cells zx 73);have Av:=Hc.alloc Hc.size (.cells zx 73);have FA:=Bw.below ((Below.refl w2.heap.size w2).alloc (Nat.le_refl _) (.cells zx 73));have Mn:w.heap.size<w2.heap.size:=bE.lt;(obtain⟨g2,Hm⟩:∃g2,g2=w2.heap.size:=⟨_,rfl⟩);rw[zcK]at cU EH Av FA;rw[←Hm]at cU;clear bE Hc Bw;(have O8:w1.heap.size≤g2:=by omega);(have PT:w.heap.size<g2:=by omega);go_wp2_with(first|(with_reducible refine zU ?_)|(with_reducible refine yl ?_)|(with_reducible refine yk ?_)|(with_reducible refine yd ?_)|(with_reducible refine ym (s:=9) (t:=55) ?_)|(with_reducible refine yM ?_));rw[←Hm];clear Hm;refine zc (zm (v:=.agg #[.int .u32 (f:Int),.string ⟨#[]⟩,.string ⟨#[]⟩]) (vs:=[.int .u32 (f:Int),.string ⟨#[]⟩,.string ⟨#[]⟩]) rfl rfl rfl rfl cU rfl Wj Wz (by simp;exact⟨rfl,rfl⟩) #[.int .u32 (f:Int),.string ⟨#[]⟩,.string ⟨#[]⟩] Wz ?_);intro w3 Lo H7 _;have bX:=EH.grown H7 (sne Wq);have Hh:=Av.grown H7 Av.size Wx;have fx:=FA.kept H7 (by rintro g ⟨rfl⟩ ⟨_,h⟩;omega);clear cU EH Av FA H7
 go_wp2_with(with_reducible refine h_A ?_);first|(have qq1w:=qq1w;refine(eS _ _ _ Bw).mono ?_)|(refine(eS _ _ _ _ fx).mono ?_)
 rintro e w4 ⟨rfl,gy,Bb⟩
 first
 | have qq1w:=qq1w
   have dK:=bE.grown Bb (sne Wq);have Hn:=Hc.grown Bb Hc.size Wx;have eX:w1.heap.size≤w4.heap.size:=Nat.le_trans et Bb.size
   clear eS Bw bE Hc Bb
 | have Mm:=Lo.grown Bb (sne Wq)
   have dK:=bX.grown Bb (sne Wq);have Hn:=Hh.grown Bb Hh.size Wx;clear eS fx Lo bX Hh Bb;go_wp2_with(first|(with_reducible refine zU ?_)|(with_reducible refine yl ?_)|(with_reducible refine yk ?_)|(with_reducible refine yd ?_)|(with_reducible refine ym (s:=9) (t:=55) ?_)|(with_reducible refine yM ?_));refine zc (zm (v:=.string (str s1)) (vs:=[.string (str s1)]) rfl rfl rfl rfl Mm rfl Wj Wz wX #[.int .u32 (f:Int),.string (str s1),.string ⟨#[]⟩] Wz ?_);intro w5 Mv bc _;have cH:=dK.grown bc (sne Wq);have bz:=Hn.grown bc Hn.size Wx;have ew:=gy.kept bc (by rintro g ⟨rfl⟩ ⟨_,h⟩;omega);clear Mm dK Hn gy bc
 go_wp2_with(with_reducible refine h_A ?_);first|(have qq1w:=qq1w;refine(oV _ _ _ gy).mono ?_)|(refine(oV _ _ _ _ ew).mono ?_)
 rintro e w6 ⟨rfl,bF,bm⟩
 first
 | have qq1w:=qq1w
   have cJ:=dK.grown bm (sne Wq);have bH:=Hn.grown bm Hn.size Wx;have ej:w1.heap.size≤w6.heap.size:=Nat.le_trans eX bm.size;clear oV gy dK Hn bm
   obtain⟨A3,c3,ik,ck⟩:=bF.cells
 | have Li:=Mv.grown bm (sne Wq)
   have cJ:=cH.grown bm (sne Wq);have bH:=bz.grown bm bz.size Wx;clear oV ew Mv cH bz bm;go_wp2_with(first|(with_reducible refine zU ?_)|(with_reducible refine yl ?_)|(with_reducible refine yk ?_)|(with_reducible refine yd ?_)|(with_reducible refine ym (s:=9) (t:=55) ?_)|(with_reducible refine yM ?_));refine zc (zm (v:=.string (str s2)) (vs:=[.string (str s2)]) rfl rfl rfl rfl Li rfl Wj Wz wX #[.int .u32 (f:Int),.string (str s1),.string (str s2)] Wz ?_);intro w7 mc H9 _;have gw:=cJ.grown H9 (sne Wq);have Bq:=bH.grown H9 bH.size Wx;have BJ:=bF.kept H9 (by rintro g ⟨rfl⟩ ⟨_,h⟩;omega);clear Li cJ bH bF H9;go_wp2_with(with_reducible refine h_A ?_);refine(yD BJ).mono ?_
   (rintro e w8 ⟨rfl,rfl⟩)
 cases b3
 ·first
  | have qq1w:=qq1w
    have cU:=Box.new w6 #[.int .u32 (f:Int),.string (str s1),.string (str s2)] 73;have Ez:=cJ.alloc (.cells #[.int .u32 (f:Int),.string (str s1),.string (str s2)] 73);have Fc:=bH.alloc bH.size (.cells #[.int .u32 (f:Int),.string (str s1),.string (str s2)] 73);have EU:=bF.below ((Below.refl w6.heap.size w6).alloc (Nat.le_refl _) (.cells #[.int .u32 (f:Int),.string (str s1),.string (str s2)] 73));have Mn:w.heap.size<w6.heap.size:=cJ.lt;(obtain⟨g2,Hm⟩:∃g2,g2=w6.heap.size:=⟨_,rfl⟩);rw[←Hm]at cU;(have O8:w1.heap.size≤g2:=by omega);(have PT:w.heap.size<g2:=by omega);clear cJ bH bF;go_wp2_with(with_reducible refine h_A ?_);rw[←Hm];clear Hm ik ck;(obtain⟨w7,PF⟩:∃w7,w7=w6.alloc (.cells #[.int .u32 (f:Int),.string (str s1),.string (str s2)] 73):=⟨_,rfl⟩);rw[←PF]at cU Ez Fc EU ⊢;have mc:Box w7 g2 73 #[.int .u32 (f:Int),.string (str s1),.string (str s2)]:=cU;have gw:Box w7 w.heap.size 73 zx:=Ez;have Bq:Below w.heap.size w w7:=Fc;have BJ:Qrd (fun g=>N1≤g∧g<w1.heap.size) w7 vb l3 false:=EU
    clear cU Ez Fc EU PF
  | skip
  have k0:=mc.c0;have k1:=mc.c1;have k2:=mc.c2;first|done|(have qq1w:=qq1w)|(go_wp2_with(with_reducible refine h_A ?_))
  cases bJ:Xd.ok ⟨f,s1,s2⟩
  ·exact Z3u_
  have HF:=Lib.hid (show GR=(⟨f,s1,s2⟩,l.length-l3.length,0) by rw[HG.out,if_neg Wz,if_pos bJ]);rw[Xd.err_ok bJ]at Ba;clear HG bJ;refine(Ba _).mono ?_;rintro e w9 ⟨rfl,Bh⟩;have gu:=gw.below Bh;have tI:=mc.below Bh;have lG:=BJ.below Bh;first|(have qq1w:=qq1w;obtain⟨A9,c9,hd0,fG⟩:=lG.cells)|(skip)
  have gE:=Bq.trans (Bh.mono Bq.size);first|(have qq1w:=qq1w;clear gw mc BJ Bq Bh Ba k0 k1 k2 fG)|(clear gw mc BJ Bq Bh Ba k0 k1 k2)
  have iK:=gu.lt
  first
  | have qq1w:=qq1w
    have hS:(Box w9.drew g2 73 #[.int .u32 (f:Int),.string (str s1),.string (str s2)]∧w9.drew.cell? ⟨vb,0,none⟩=some (.slice A9 l3.length c9))∧Below w.heap.size w w9.drew:=⟨⟨tI,hd0⟩,za gE 1⟩
  | have hS:(Box w9.drew g2 73 #[.int .u32 (f:Int),.string (str s1),.string (str s2)]∧Rdr (fun g=>N1≤g∧g<w1.heap.size) w9.drew (.pointer (some ⟨rb,0,none⟩)) (some vb) l3 false)∧Below w.heap.size w w9.drew:=⟨⟨tI,lG.drew⟩,za gE 1⟩
  have Eg:Box w9.drew w.heap.size 73 #[.int .u32 0,.string ⟨#[]⟩,.string ⟨#[]⟩]:=gu;have pZ:IntKind.i64.wrap ((n:Int)-(l3.length:Int))=((l.length-l3.length:Nat):Int):=by rw[IntWalk.i64_in _ ⟨by omega,by omega⟩];omega
  go_wp2_with(with_reducible refine h_A ?_)
  first
  | have qq1w:=qq1w
    refine zt (fun wx:World=>(Box wx g2 73 #[.int .u32 (f:Int),.string (str s1),.string (str s2)]∧wx.cell? ⟨vb,0,none⟩=some (.slice A9 l3.length c9))∧Below w.heap.size w wx) Wj ?_
    clear gu tI lG gE iK hd0
  | refine zt (fun wx:World=>(Box wx g2 73 #[.int .u32 (f:Int),.string (str s1),.string (str s2)]∧Rdr (fun g=>N1≤g∧g<w1.heap.size) wx (.pointer (some ⟨rb,0,none⟩)) (some vb) l3 false)∧Below w.heap.size w wx) Wj ?_
    clear gu tI lG gE iK
  generalize w9.drew=wd at*;refine ze 0 (v:=?_) rfl Wj Wj Wj hS rfl ?_ ?_;rotate_left
  ·intro wS He;have k0:=He.1.1.cell (j:=0) rfl;have k1:=He.1.1.cell (j:=1) rfl;have k2:=He.1.1.cell (j:=2) rfl;go_simp;(with_reducible rfl)
  simp only[List.getElem_toArray,List.getElem_cons_zero,Act.put,List.setIfInBounds_toArray,List.set_cons_zero,List.set_cons_succ];refine rg_t 1 hS ?_;simp only[g_S];refine rg_t 2 hS ?_;simp only[g_S];refine rg_t 3 hS ?_
  first
  | have qq1w:=qq1w
    simp only[g_S]
    refine rg_t 4 hS ?_
  | skip
  simp only[g_S]
  first
  | done
  | have qq1w:=qq1w
  | refine zj 4 rfl Wj rfl (fun K hK=>?_)
    go_simp;refine(yN hS.1.2).mono ?_;rintro e we ⟨rfl,rfl⟩;refine hK _ _ hS ?_;clear hK K
  refine rg_t 5 hS ?_
  first
  | have qq1w:=qq1w
    simp only[g_S];refine ze 6 (v:=?_) rfl Wj Wj Wj hS rfl ?_ ?_;rotate_left
    ·intro wS He;have k0:=He.1.2;go_simp;(with_reducible rfl)
    simp only[g_S];refine rg_t 7 hS ?_;simp only[g_S]
    refine rg_t 8 hS ?_
  | skip
  simp only[g_S];first|(have qq1w:=qq1w;refine zj 9 rfl Wj rfl (fun K hK=>?_))|(refine zj 6 rfl Wj rfl (fun K hK=>?_))
  refine zK (v:=.agg #[.int .u32 (f:Int),.string (str s1),.string (str s2)]) (vs:=[.int .u32 (f:Int),.string (str s1),.string (str s2)]) rfl rfl rfl Eg rfl Wj Wz (by simp;exact⟨rfl,rfl,rfl⟩) #[.int .u32 (f:Int),.string (str s1),.string (str s2)] Wz ?_;intro wz eE BP _
  first
  | have qq1w:=qq1w
    have BI:(Box wz g2 73 #[.int .u32 (f:Int),.string (str s1),.string (str s2)]∧wz.cell? ⟨vb,0,none⟩=some (.slice A9 l3.length c9))∧Below w.heap.size w wz:=⟨⟨hS.1.1.grown BP (sne Wq),BP.cell hS.1.2 (fun e=>by simp at e;omega)⟩,hS.2.grown BP hS.2.size Wx⟩
  | have BI:(Box wz g2 73 #[.int .u32 (f:Int),.string (str s1),.string (str s2)]∧Rdr (fun g=>N1≤g∧g<w1.heap.size) wz (.pointer (some ⟨rb,0,none⟩)) (some vb) l3 false)∧Below w.heap.size w wz:=⟨⟨hS.1.1.grown BP (sne Wq),hS.1.2.kept BP (by rintro g ⟨rfl⟩ ⟨h,_⟩;omega)⟩,hS.2.grown BP hS.2.size Wx⟩
  refine hK _ _ BI ?_;clear hK K;first|(have qq1w:=qq1w;refine rg_t 10 BI ?_)|(refine rg_t 7 BI ?_)
  simp only[g_S];first|(have qq1w:=qq1w;refine rg_t 11 BI ?_)|(refine rg_t 8 BI ?_)
  simp only[g_S];refine zD Wj ?_;go_wp2_with(with_reducible refine h_A ?_)
  (try simp only[Exit.inBlock,Exit.then])
  refine zv rfl eE rfl rfl rfl underlying73 rfl Wj rfl ?_;rw[HF.out];simp only[cX];exact⟨rfl,BI.2⟩
 have HF:=Lib.hid (show GR=(xd00,0,4) by rw[HG.out,if_pos rfl]);clear HG;go_wp2_with(first|(with_reducible refine zU ?_)|(with_reducible refine yl ?_)|(with_reducible refine yk ?_)|(with_reducible refine yd ?_)|(with_reducible refine ym (s:=9) (t:=55) ?_)|(with_reducible refine yM ?_));first|(have qq1w:=qq1w;refine zc (zm (v:=.agg zx) (vs:=zx.toList) rfl rfl rfl rfl cJ rfl Wj WJ WJ zx rfl ?_))|(refine zc (zm (v:=.agg zx) (vs:=zx.toList) rfl rfl rfl rfl gw rfl Wj WJ WJ zx rfl ?_))
 intro wz eE BP _;first|(have qq1w:=qq1w;have dc:=Below.grown bH BP (Below.size bH) Wx)|(have dc:=Below.grown Bq BP (Below.size Bq) Wx)
 go_wp2_with(with_reducible refine h_A ?_)
 (try simp only[Exit.inBlock,Exit.then])
 refine zv rfl eE rfl rfl rfl underlying73 rfl Wj rfl ?_;rw[HF.out,Jt]
 exact⟨rfl,dc⟩):p:=h
theorem Z4t_(h:p:=by
 go_enter func60,ntmps60;go_upto_region 1 with fail;rw[←Hg,←Hi];clear Hg Hi;go_wp2_with(with_reducible refine h_A ?_);go_ret2
 exact⟨none,_,0,rfl,Ha,fun e=>by cases e⟩):p:=h
theorem Z40_(h:p:=by
 first
 | have qqi6:=qqi6
   have cF:=Lib.hid BQ.symm;clear BQ
   obtain rfl:OK=false:=by rw[BA.out];simp[okA,zw,ag0,agN,agS,agX,agQ,agX2,xd0,cF.out]
 | have qqi5:=qqi5
   have cF:=Lib.hid BQ.symm;clear BQ
   obtain rfl:OK=false:=by rw[BA.out];simp[okA,zw,ag0,agN,agS,agX,agQ,agX2,xd0,cF.out]
 | have qqi4:=qqi4
   have cF:=Lib.hid BQ.symm;clear BQ
   obtain rfl:OK=false:=by rw[BA.out];simp[okA,zw,ag0,agN,agS,agX,agQ,agX2,xd0,cF.out]
 | have gq:(0:Int)<(a.q.length:Int):=by omega
   have HQ:Hid (¬a.q=[]):=Lib.hid (fun e=>hq (List.length_eq_zero_iff.2 e));clear hq;obtain rfl:OK=false:=by rw[BA.out];simp[okA,zw,ag0,agN,agS,agX,agQ,agX2,xd0,cF.out,HN.out,HS.out,HX.out,HQ.out]
 exact Z4t_):p:=h
theorem Z4m_(h:p:=by
 go_enter func60,ntmps60;go_upto_region 1 with fail;rw[←Hg,←Hi];clear Hg Hi;go_wp2_with(with_reducible refine h_A ?_);refine cO.mono ?_;rintro e w2 ⟨rfl,Hc⟩;clear cO;go_wp2_with(with_reducible refine h_A ?_);go_ret2
 exact⟨none,_,0,rfl,Ha.trans (Hc.mono Ha.size),fun e=>by cases e⟩):p:=h
theorem Z6l_(h:p:=by
 intro wS He;have x1:=He.c1;have x2:=He.c2;go_simp
 (with_reducible rfl)):p:=h
theorem Z7_(h:p:=by
 unfold agV;obtain⟨xb,w1,Hg,Hi,hX,Ha⟩:=zg w #[.bool a.is,.int .u64 (a.n:Int),.string (str a.s),.int .u32 (a.x.fmt:Int),.string (str a.x.glob),.string (str a.x.bran),.slice h.A a.q.length h.c,.int .u8 (a.v.kind:Int),.int .u64 (a.v.n:Int),.string (str a.v.s),.slice h.h.A1 a.v.keys.length h.h.c1,.slice h.h.A2 a.v.list.length h.h.c2] 80;have dD:=ha.up Ha;have cO:=qx a.v vl0 h.h ⟨none,0,none,0⟩ w1 dD.v (RV.zero _ _);unfold jI vlV vl0 at cO;obtain⟨sv,Bi⟩:∃s,s=yJ a.v (.mk 0 0 [] [] []):=⟨_,rfl⟩
 rw[←Bi]at cO;have BS:yJ a.v vl0=sv:=Bi.symm;clear Bi
 first
 | have qq20:=qq20
   obtain⟨OK,fM⟩:∃o,o=okA 116 a:=⟨_,rfl⟩
   obtain⟨L,hL⟩:∃l,l=byA 116 a:=⟨_,rfl⟩
 | have qq1z:=qq1z
   obtain⟨OK,fM⟩:∃o,o=okA 115 a:=⟨_,rfl⟩
   obtain⟨L,hL⟩:∃l,l=byA 115 a:=⟨_,rfl⟩
 | have qq1y:=qq1y
   obtain⟨OK,fM⟩:∃o,o=okA 119 a:=⟨_,rfl⟩
   obtain⟨L,hL⟩:∃l,l=byA 119 a:=⟨_,rfl⟩
 | have qq1x:=qq1x
   obtain⟨OK,fM⟩:∃o,o=okA 110 a:=⟨_,rfl⟩
   obtain⟨L,hL⟩:∃l,l=byA 110 a:=⟨_,rfl⟩
 | obtain⟨OK,fM⟩:∃o,o=okA 100 a:=⟨_,rfl⟩
   obtain⟨L,hL⟩:∃l,l=byA 100 a:=⟨_,rfl⟩
 rw[←fM,←hL];have BA:=Lib.hid fM;have HL:=Lib.hid hL;clear fM hL;have dr:=zh a.s;have c_0:=hX.c0;have c_1:=hX.c1;have c_2:=hX.c2;have c_3:=hX.c3;have c_4:=hX.c4;have c_5:=hX.c5;have c_6:=hX.c6;have c_7:=hX.c7;have c_8:=hX.c8;have c_9:=hX.c9;have c_10:=hX.c10;have c_11:=hX.c11;obtain⟨is,BQ⟩:∃i,i=a.is:=⟨_,rfl⟩
 rw[←BQ]at c_0
 cases is
 ·have qqi4:=();exact Z40_
 have cF:=Lib.hid BQ.symm;clear BQ;first|(have qq20:=qq20;by_cases hn:a.n=0)|(have qq1z:=qq1z;by_cases hn:a.n=0)|(by_cases hs:a.s=[])
 ·first
  | have qq20:=qq20
    (have gn:((a.n:Int)!=0)=false:=by simp;omega);have HN:=Lib.hid hn
    clear hn
  | have qq1z:=qq1z
    (have gn:((a.n:Int)!=0)=false:=by simp;omega);have HN:=Lib.hid hn
    clear hn
  | have gs:((str a.s).toList != [])=false:=by rw[zn,hs];simp
    (have sH:(str a.s).toList.isEmpty=true:=by rw[zn,hs];rfl);have HS:=Lib.hid hs;clear hs
  by_cases hx:a.x=xd0
  ·have nk:=fun x y=>run_eqGuard_agg (P:=prog) w1 .neq 73 x y #[.int .u32 (a.x.fmt:Int),.string (str a.x.glob),.string (str a.x.bran)] #[.int .u32 0,.string ⟨#[]⟩,.string ⟨#[]⟩] yw
   have hne:∀w,(binOp .neq 73 (.agg #[.int .u32 (a.x.fmt:Int),.string (str a.x.glob),.string (str a.x.bran)]) (.agg #[.int .u32 0,.string ⟨#[]⟩,.string ⟨#[]⟩])).run prog w= .ok (.bool false) w:=fun w=>by
    have:=yW a.x xd0 w;rw[decide_eq_true hx]at this;exact this
   have HX:=Lib.hid hx;clear hx;by_cases hq:a.q.length=0
   ·(have gq:¬(0:Int)<(a.q.length:Int):=by omega);have HQ:=Lib.hid (List.length_eq_zero_iff.1 hq);clear hq
    cases sv
    ·have HV:=Lib.hid BS;clear BS
     first
     | have qq20:=qq20
       obtain rfl:OK=false:=by rw[BA.out];simp[okA,zw,ag0,agN,agS,agX,agQ,agX2,xd0,cF.out,HN.out,HX.out,HQ.out,HV.out]
     | have qq1z:=qq1z
       obtain rfl:OK=false:=by rw[BA.out];simp[okA,zw,ag0,agN,agS,agX,agQ,agX2,xd0,cF.out,HN.out,HX.out,HQ.out,HV.out]
     | obtain rfl:OK=false:=by rw[BA.out];simp[okA,zw,ag0,agN,agS,agX,agQ,agX2,xd0,cF.out,HS.out,HX.out,HQ.out,HV.out]
     exact Z4m_
    have HV:=Lib.hid BS;clear BS
    first
    | have qq20:=qq20
      obtain rfl:L=zP [] a.s 2:=by rw[HL.out];simp[byA]
      have mO:Hid (OK=decide (zE a.s.length 2=0)):=Lib.hid mZ
    | have qq1z:=qq1z
      obtain rfl:L=zP [] a.s 1:=by rw[HL.out];simp[byA]
      have mO:Hid (OK=decide (zE a.s.length 1=0)):=Lib.hid mZ
    | have qq1y:=qq1y
      obtain rfl:L=be 2 a.n:=by rw[HL.out];simp[byA]
      have mO:Hid (OK=decide (a.n<65536)):=Lib.hid Uz
    | have qq1x:=qq1x
      obtain rfl:L=be 1 a.n:=by rw[HL.out];simp[byA]
      have mO:Hid (OK=decide (a.n<256)):=Lib.hid Uz
    | obtain rfl:L=be 4 a.n:=by rw[HL.out];simp[byA]
      have mO:Hid (OK=decide (a.n<4294967296)):=Lib.hid Uz
    go_enter func60,ntmps60;go_upto_region 1 with fail;rw[←Hg,←Hi];clear Hg Hi;go_wp2_with(with_reducible refine h_A ?_);refine cO.mono ?_;rintro e w2 ⟨rfl,Hc⟩;have Hk:=hX.below Hc;have db:=dD.up Hc;have H3:=Ha.trans (Hc.mono Ha.size);have cj:=H3.size;clear c_0 c_1 c_2 c_3 c_4 c_5 c_6 c_7 c_8 c_9 c_10 c_11;clear cO;have c_0:=Hk.c0;have c_1:=Hk.c1;have c_2:=Hk.c2;have c_3:=Hk.c3;have c_4:=Hk.c4;have c_5:=Hk.c5;have c_6:=Hk.c6;have c_7:=Hk.c7;have c_8:=Hk.c8;have c_9:=Hk.c9;have c_10:=Hk.c10;have c_11:=Hk.c11;go_wp2_with(with_reducible refine h_A ?_)
    first
    | have qq20:=qq20
      have fS:=fun W=>qd 116 2 rfl W
      have ca:=fun W=>vX none 0 0 [] a.s 2 W (Rd.nil _ _ _ _ WX _) db.s Wq
    | have qq1z:=qq1z
      have fS:=fun W=>qd 115 1 rfl W
      have ca:=fun W=>vX none 0 0 [] a.s 1 W (Rd.nil _ _ _ _ WX _) db.s Wq
    | have qq1y:=qq1y
      have gZ:=db.n
      have fS:=fun W=>qd 119 2 rfl W
    | have qq1x:=qq1x
      have gZ:=db.n
      have fS:=fun W=>qd 110 1 rfl W
    | have gZ:=db.n
      have fS:=fun W=>qd 100 4 rfl W
    have hS:Box w2.drew xb 80 #[.bool a.is,.int .u64 (a.n:Int),.string (str a.s),.int .u32 (a.x.fmt:Int),.string (str a.x.glob),.string (str a.x.bran),.slice h.A a.q.length h.c,.int .u8 (a.v.kind:Int),.int .u64 (a.v.n:Int),.string (str a.v.s),.slice h.h.A1 a.v.keys.length h.h.c1,.slice h.h.A2 a.v.list.length h.h.c2]:=Hk;have Hh:Below w.heap.size w w2.drew:=za H3 1;refine zt (fun W:World=>Box W xb 80 #[.bool a.is,.int .u64 (a.n:Int),.string (str a.s),.int .u32 (a.x.fmt:Int),.string (str a.x.glob),.string (str a.x.bran),.slice h.A a.q.length h.c,.int .u8 (a.v.kind:Int),.int .u64 (a.v.n:Int),.string (str a.v.s),.slice h.h.A1 a.v.keys.length h.h.c1,.slice h.h.A2 a.v.list.length h.h.c2]) Wj ?_;clear Hk dD db Ha Hc H3 hX;clear c_0 c_1 c_2 c_3 c_4 c_5 c_6 c_7 c_8 c_9 c_10 c_11;have ee:=Hh.size
    first
    | have qq20:=qq20
      generalize zP [] a.s 2=M at*
      generalize zE a.s.length 2=E at*
    | have qq1z:=qq1z
      generalize zP [] a.s 1=M at*
      generalize zE a.s.length 1=E at*
    | skip
    generalize w2.drew=w3 at*;refine ze 0 (v:=?_) rfl Wj Wj Wj hS rfl ?_ ?_;rotate_left
    ·exact Z6l_
    (try simp only[g_S]);refine ze 1 (v:=?_) rfl Wj Wj Wj hS rfl ?_ ?_;rotate_left
    ·exact Z6l_
    (try simp only[g_S]);refine ze 2 (v:=?_) rfl Wj Wj Wj hS rfl ?_ ?_
    first
    | done
    | have qq20:=qq20
    | have qq1z:=qq1z
    | rotate_left
      ·exact Z6l_
      (try simp only[g_S]);refine ze 5 (v:=?_) rfl Wj Wj Wj hS rfl ?_ ?_;rotate_left
      ·exact Z6l_
      (try simp only[g_S]);refine ze 6 (v:=?_) rfl Wj Wj Wj hS rfl ?_ ?_;rotate_left
      ·exact Z6l_
      (try simp only[g_S]);refine ze 7 (v:=?_) rfl Wj Wj Wj hS rfl ?_ ?_
    rotate_left
    ·exact Z6l_
    (try simp only[g_S]);refine zj 3 rfl Wj rfl (fun K hK=>?_);go_simp;refine(fS _).mono ?_;rintro e w4 ⟨rfl,rfl⟩;refine hK _ _ hS ?_;clear hK K;(try simp only[g_S]);refine zj 4 rfl Wj rfl (fun K hK=>?_);go_simp;(first|(have qq20:=qq20;refine(ca _).mono ?_)|(have qq1z:=qq1z;refine(ca _).mono ?_)|(have qq1y:=qq1y;refine(ye a.n 2 w4 gZ Wq).mono ?_)|(have qq1x:=qq1x;refine(ye a.n 1 w4 gZ Wq).mono ?_)|(refine(ye a.n 4 w4 gZ Wq).mono ?_));rintro e w5 ⟨A5,c5,rfl,ct,bz⟩;have BL:=hS.below bz
    first
    | done
    | have qq20:=qq20
    | have qq1z:=qq1z
    | refine hK _ _ BL ?_;clear hK K
      (try simp only[g_S]);refine zj 8 rfl Wj rfl (fun K hK=>?_);go_simp;refine(fS _).mono ?_
      (rintro e w6 ⟨rfl,rfl⟩)
    refine hK _ _ BL ?_;clear hK K
    first
    | done
    | have qq20:=qq20
    | have qq1z:=qq1z
    | try simp only[g_S]
      refine ze 9 (v:=?_) rfl Wj Wj Wj BL rfl ?_ ?_;rotate_left
      ·exact Z6l_
    (try simp only[g_S]);(first|(have qq20:=qq20;refine ze 5 (v:=?_) rfl Wj Wj Wj BL rfl ?_ ?_)|(have qq1z:=qq1z;refine ze 5 (v:=?_) rfl Wj Wj Wj BL rfl ?_ ?_)|(refine ze 10 (v:=?_) rfl Wj Wj Wj BL rfl ?_ ?_));rotate_left
    ·exact Z6l_
    (try simp only[g_S]);(first|(have qq20:=qq20;refine ze 6 (v:=?_) rfl Wj Wj Wj BL rfl ?_ ?_)|(have qq1z:=qq1z;refine ze 6 (v:=?_) rfl Wj Wj Wj BL rfl ?_ ?_)|(refine ze 11 (v:=?_) rfl Wj Wj Wj BL rfl ?_ ?_));rotate_left
    ·exact Z6l_
    (try simp only[g_S]);(first|(have qq20:=qq20;refine ze 7 (v:=?_) rfl Wj Wj Wj BL rfl ?_ ?_)|(have qq1z:=qq1z;refine ze 7 (v:=?_) rfl Wj Wj Wj BL rfl ?_ ?_)|(refine ze 12 (v:=?_) rfl Wj Wj Wj BL rfl ?_ ?_));rotate_left
    ·exact Z6l_
    (try simp only[g_S]);(first|(have qq20:=qq20;refine ze 8 (v:=?_) rfl Wj Wj Wj BL rfl ?_ ?_)|(have qq1z:=qq1z;refine ze 8 (v:=?_) rfl Wj Wj Wj BL rfl ?_ ?_)|(refine ze 13 (v:=?_) rfl Wj Wj Wj BL rfl ?_ ?_));rotate_left
    ·exact Z6l_
    (try simp only[g_S]);(first|(have qq20:=qq20;refine ze 9 (v:=?_) rfl Wj Wj Wj BL rfl ?_ ?_)|(have qq1z:=qq1z;refine ze 9 (v:=?_) rfl Wj Wj Wj BL rfl ?_ ?_)|(refine ze 14 (v:=?_) rfl Wj Wj Wj BL rfl ?_ ?_));rotate_left
    ·exact Z6l_
    (try simp only[g_S]);refine zD Wj ?_;go_wp2_with(with_reducible refine h_A ?_);go_ret2;(first|(have qq20:=qq20;refine⟨A5,_,c5,?_,Hh.trans (bz.mono ee),fun _=>⟨rfl,Own.base_le ct ee⟩⟩)|(have qq1z:=qq1z;refine⟨A5,_,c5,?_,Hh.trans (bz.mono ee),fun _=>⟨rfl,Own.base_le ct ee⟩⟩)|(refine⟨A5,_,c5,?_,Hh.trans (bz.mono ee),fun _=>⟨by rw[zr],Own.base_le ct ee⟩⟩));rw[mO.out]
    first
    | have qq20:=qq20
      first|rfl|(simp;done)|(congr)|trace_state
    | have qq1z:=qq1z
      first|rfl|(simp;done)|(congr)|trace_state
    | have qq1y:=qq1y
      have e:decide ((a.n:Int)<IntKind.u64.wrap (2 ^ min (IntKind.u64.wrap (IntKind.i64.wrap 16)).toNat 64))=decide (a.n<65536):=by
       rw[show IntKind.u64.wrap (2 ^ min (IntKind.u64.wrap (IntKind.i64.wrap 16)).toNat 64)=(65536:Int) by decide+kernel];apply decide_eq_decide.2;omega
      exact congrArg (fun b=>Ending.returned (.tuple #[.slice A5 2 c5,.bool b])) e
    | have qq1x:=qq1x
      have e:decide ((a.n:Int)<IntKind.u64.wrap (2 ^ min (IntKind.u64.wrap (IntKind.i64.wrap 8)).toNat 64))=decide (a.n<256):=by
       rw[show IntKind.u64.wrap (2 ^ min (IntKind.u64.wrap (IntKind.i64.wrap 8)).toNat 64)=(256:Int) by decide+kernel];apply decide_eq_decide.2;omega
      exact congrArg (fun b=>Ending.returned (.tuple #[.slice A5 1 c5,.bool b])) e
    | have e:decide ((a.n:Int)<IntKind.u64.wrap (2 ^ min (IntKind.u64.wrap (IntKind.i64.wrap 32)).toNat 64))=decide (a.n<4294967296):=by
       rw[show IntKind.u64.wrap (2 ^ min (IntKind.u64.wrap (IntKind.i64.wrap 32)).toNat 64)=(4294967296:Int) by decide+kernel];apply decide_eq_decide.2;omega
      exact congrArg (fun b=>Ending.returned (.tuple #[.slice A5 4 c5,.bool b])) e
   (have gq:(0:Int)<(a.q.length:Int):=by omega);have HQ:Hid (¬a.q=[]):=Lib.hid (fun e=>hq (List.length_eq_zero_iff.2 e));clear hq
   first
   | have qq20:=qq20
     obtain rfl:OK=false:=by rw[BA.out];simp[okA,zw,ag0,agN,agS,agX,agQ,agX2,xd0,cF.out,HN.out,HX.out,HQ.out]
   | have qq1z:=qq1z
     obtain rfl:OK=false:=by rw[BA.out];simp[okA,zw,ag0,agN,agS,agX,agQ,agX2,xd0,cF.out,HN.out,HX.out,HQ.out]
   | obtain rfl:OK=false:=by rw[BA.out];simp[okA,zw,ag0,agN,agS,agX,agQ,agX2,xd0,cF.out,HS.out,HX.out,HQ.out]
   exact Z4t_
  have nk:=fun x y=>run_eqGuard_agg (P:=prog) w1 .neq 73 x y #[.int .u32 (a.x.fmt:Int),.string (str a.x.glob),.string (str a.x.bran)] #[.int .u32 0,.string ⟨#[]⟩,.string ⟨#[]⟩] yw
  have hne:∀w,(binOp .neq 73 (.agg #[.int .u32 (a.x.fmt:Int),.string (str a.x.glob),.string (str a.x.bran)]) (.agg #[.int .u32 0,.string ⟨#[]⟩,.string ⟨#[]⟩])).run prog w= .ok (.bool true) w:=fun w=>by
   have:=yW a.x xd0 w;rw[decide_eq_false hx]at this;exact this
  have HX:Hid (¬a.x=⟨0,[],[]⟩):=Lib.hid hx;clear hx
  first
  | have qq20:=qq20
    obtain rfl:OK=false:=by rw[BA.out];simp[okA,zw,ag0,agN,agS,agX,agQ,agX2,xd0,cF.out,HN.out,HX.out]
  | have qq1z:=qq1z
    obtain rfl:OK=false:=by rw[BA.out];simp[okA,zw,ag0,agN,agS,agX,agQ,agX2,xd0,cF.out,HN.out,HX.out]
  | obtain rfl:OK=false:=by rw[BA.out];simp[okA,zw,ag0,agN,agS,agX,agQ,agX2,xd0,cF.out,HS.out,HX.out]
  exact Z4t_
 first
 | have qq20:=qq20
   (have gn:((a.n:Int)!=0)=true:=by simp;omega);have HN:=Lib.hid hn;clear hn
   obtain rfl:OK=false:=by rw[BA.out];simp[okA,zw,ag0,agN,agS,agX,agQ,agX2,xd0,cF.out,HN.out]
 | have qq1z:=qq1z
   (have gn:((a.n:Int)!=0)=true:=by simp;omega);have HN:=Lib.hid hn;clear hn
   obtain rfl:OK=false:=by rw[BA.out];simp[okA,zw,ag0,agN,agS,agX,agQ,agX2,xd0,cF.out,HN.out]
 | have gs:((str a.s).toList != [])=true:=by rw[zn];simpa using hs
   (have sH:(str a.s).toList.isEmpty=false:=by rw[zn];simpa using hs);have HS:=Lib.hid hs;clear hs;obtain rfl:OK=false:=by rw[BA.out];simp[okA,zw,ag0,agN,agS,agX,agQ,agX2,xd0,cF.out,HS.out]
 exact Z4t_):p:=h
theorem Z5b_(h:p:=by
 go_wp2_with(with_reducible refine h_A ?_);go_ret3;rw[HE.out.1,HE.out.2,HX.out]
 exact⟨none,0,rfl,Own.none_ _ _ _ _,Hc⟩):p:=h
theorem Z43_(h:p:=by
 first
 | have qqim:=qqim
   have Nk:((N:Int) % 8 !=0)=true:=by simp;omega
   have hx:zO b=5:=by rw[tX.out,if_pos (.inl h8)]
 | have Fx:(rest.length:Int)<(N:Int):=by omega
   have hx:zO b=4:=by have:=Lb.out;rw[tX.out,if_neg Wq,if_pos Wq]
 have HE:=Lib.hid (xZ hx Wq);have HX:=Lib.hid hx;first|(have qqim:=qqim;clear hx h8 hQ)|(clear hx h8)
 exact Z5b_):p:=h
theorem Z8_(h:p:=by
 have hl:=RdB.length hr;by_cases h2:b.length<2
 ·have hx:zO b=4:=by rw[zO,if_pos h2]
  have HE:=Lib.hid (xZ hx Wq);have HX:=Lib.hid hx;clear hx;have hm:mnum b false 2=(0,[],true):=Yw (x:=2) Wq h2;first|(have qq29:=qq29;go_enter func161,ntmps161)|(go_enter func140,ntmps140)
  go_wp2_with(with_reducible refine h_A ?_)
  first
  | have qq29:=qq29
    refine(qE A n c b w hr Wq).mono ?_;rintro e w1 ⟨rb,vb,rfl,Ns,iu,iL,Ha⟩
    have lL:=yn iL 2 Wq Wq
  | refine(yZ A n c b w hr Wq).mono ?_
    rintro e w1 ⟨vb,rfl,iu,iL,Ha⟩;have lL:=yG iL 2 Wq Wq
  rw[hm]at lL;go_wp2_with(with_reducible refine h_A ?_);refine lL.mono ?_;rintro e w2 ⟨rfl,Bw,Hm⟩;have Hc:=Ha.grown Hm Ha.size Wx
  first
  | have qq29:=qq29
    go_wp2_with(with_reducible refine h_A ?_);refine(yD Bw).mono ?_
    (rintro e w3 ⟨rfl,rfl⟩)
  | obtain⟨A9,n9,c9,q0,q1,_⟩:=Bw
  exact Z5b_
 have hm:mnum b false 2=(unbe (b.take 2),b.drop 2,false):=vK (x:=2) Wq Wq;have hN:getN b<65536:=xY;have LP:unbe (b.take 2)=getN b:=rfl;rw[LP]at hm;have sV:(b.drop 2).length=b.length-2:=by simp
 have tX:Hid (zO b=if getN b % 8≠0∨1000<getN b / 8 then 5 else if b.length<2+getN b then 4 else if zW (yo (getN b / 8) (b.drop 2))=true then 0 else 5):=Lib.hid (by rw[zO,if_neg h2]);have LF:Hid (zO b=0→xM b=yo (getN b / 8) (b.drop 2)∧qw b=getN b+2):=Lib.hid (fun h=>by unfold xM qw;rw[h];simp);first|(have qq29:=qq29;go_enter func161,ntmps161)|(go_enter func140,ntmps140)
 go_wp2_with(with_reducible refine h_A ?_)
 first
 | have qq29:=qq29
   refine(qE A n c b w hr Wq).mono ?_;rintro e w1 ⟨rb,vb,rfl,Ns,iu,iL,Ha⟩
   have lL:=yn iL 2 Wq Wq
 | refine(yZ A n c b w hr Wq).mono ?_
   rintro e w1 ⟨vb,rfl,iu,iL,Ha⟩;have lL:=yG iL 2 Wq Wq
 rw[hm]at lL;generalize getN b=N at*;generalize dp:b.drop 2=rest at*;have da:b.length=rest.length+2:=by omega
 have aT:=Lib.hid sV;clear sV;clear hm LP;have hwN:IntKind.i64.wrap ((N:Nat):Int)=(N:Int):=IntWalk.i64_in _ ⟨by omega,by omega⟩;go_wp2_with(with_reducible refine h_A ?_);refine lL.mono ?_;rintro e w2 ⟨rfl,Bw,Hm⟩;have Hc:=Ha.grown Hm Ha.size Wx;have et:w1.heap.size≤w2.heap.size:=Hm.size;clear Hm lL iL;have tQ:=Lib.hid dp;clear dp;have Lb:=Lib.hid da;clear da;obtain⟨Q,hQ⟩:∃Q,Q=N / 8:=⟨_,rfl⟩
 first|(have qq29:=qq29;have od:(N:Int) / 8=(Q:Int):=by omega)|(skip)
 rw[←hQ]at tX LF
 first
 | have qq29:=qq29
   go_wp2_with(with_reducible refine h_A ?_);refine(yD Bw).mono ?_
   (rintro e w3 ⟨rfl,rfl⟩)
 | have Si:=Bw
   obtain⟨A9,n9,c9,q0,q1,_,_,qr,_⟩:=Si;have aI:=RdB.length qr;subst aI
 by_cases h8:N % 8=0
 ·have Nk:((N:Int) % 8 !=0)=false:=by simp;omega
  by_cases hk:1000<Q
  ·(first|(have qq29:=qq29;have SJ:(1000:Int)<(Q:Int):=by omega)|(have SJ:(8000:Int)<(N:Int):=by omega));(have hx:zO b=5:=by rw[tX.out,if_pos (.inr hk)]);have HE:=Lib.hid (xZ hx Wq);have HX:=Lib.hid hx;clear hx hQ h8;exact Z5b_
  first|(have qq29:=qq29;have SJ:decide ((1000:Int)<(Q:Int))=false:=by simp;omega)|(have SJ:decide ((8000:Int)<(N:Int))=false:=by simp;omega)
  have MN:=Lib.hid (show N=8*Q by omega);clear hQ
  first
  | have qq29:=qq29
    go_wp2_with(with_reducible refine h_A ?_);refine(yN Bw).mono ?_
    (rintro e w4 ⟨rfl,rfl⟩)
  | skip
  by_cases fA:rest.length<N
  ·exact Z43_
  have Fx:¬(rest.length:Int)<(N:Int):=by omega
  have v5:Hid (zO b=if zW (yo Q rest)=true then 0 else 5):=Lib.hid (by have:=Lb.out;rw[tX.out,if_neg Wq,if_neg Wq]);clear h8;go_wp2_with(with_reducible refine h_A ?_)
  first
  | have qq29:=qq29
    go_loopw [31,7] (fun s v wr=>∃(k c2:Nat) (A2:Option Addr) (out:List Sp),k≤Q∧s= .int .i64 k∧v= .slice A2 out.length c2∧out=yo k rest∧OwnS wr w1.heap.size A2 out.length c2 out∧Rdr (fun g=>w.heap.size≤g∧g<w1.heap.size) wr (.pointer (some ⟨rb,0,none⟩)) (some vb) (rest.drop (8*k)) false∧w1.heap.size≤wr.heap.size∧Below w.heap.size w wr) (fun s _ _=>Q-(intOf s).toNat)
    case atStart=>exact⟨0,0,none,[],by omega,rfl,rfl,by simp[yo],Own.none_ _ _ _ _,by simpa using Bw,et,Hc⟩
  | go_loopw [8,7] (fun s v wr=>∃(k k8 c2:Nat) (A2:Option Addr) (out:List Sp),k≤Q∧s= .int .i64 k8∧k8=8*k∧v= .slice A2 out.length c2∧out=yo k rest∧OwnS wr w1.heap.size A2 out.length c2 out∧Qrd (fun g=>w.heap.size≤g∧g<w1.heap.size) wr vb (rest.drop (8*k)) false∧w1.heap.size≤wr.heap.size∧Below w.heap.size w wr) (fun s _ _=>8*Q-(intOf s).toNat)
    case atStart=>exact⟨0,0,0,none,[],by omega,rfl,rfl,rfl,by simp[yo],Own.none_ _ _ _ _,by simpa using Bw,et,Hc⟩
  first
  | have qq29:=qq29
    clear Bw et Hc
    obtain⟨k,c2,A2,out,hk',rfl,rfl,cQ,ho,hR,hz,bO⟩:=hrel
  | clear Bw et Hc q0 q1 qr
    obtain⟨k,k8,c2,A2,out,hk',rfl,pM,rfl,cQ,ho,hR,hz,bO⟩:=hrel;have sh:=MN.out;have ar:=Lib.hid pM;(have Co:(k8:Int)<(N:Int)↔k<Q:=by omega);clear sh
  have bK:out.length=k:=by rw[cQ,jk]
  by_cases hlt:k<Q
  ·first
   | have qq29:=qq29
     have Rr:(k:Int)<(Q:Int):=by omega
   | have Rr:(k8:Int)<(N:Int):=Co.2 hlt
     (have WU:k8≤8000:=by omega);clear pM Co
   have sh:=MN.out;(first|(have qq29:=qq29;have eK:=yn hR 4 Wq Wq)|(have eK:=yG hR 4 Wq Wq));have gG:mnum (rest.drop (8*k)) false 4=(unbe ((rest.drop (8*k)).take 4),(rest.drop (8*k)).drop 4,false):=vK (x:=4) Wq Hq;rw[gG]at eK
   have dU:mnum ((rest.drop (8*k)).drop 4) false 4=(unbe ((rest.drop (8*k+4)).take 4),rest.drop (8*(k+1)),false):=by
    have:=vK (l:=rest.drop (8*k+4)) (x:=4) Wq Hq;rw[List.drop_drop];exact this.trans (by rw[List.drop_drop,show 8*k+4+4=8*(k+1) by omega])
   have R0:Hid (yo (k+1) rest=out++ [(unbe ((rest.drop (8*k)).take 4),unbe ((rest.drop (8*k+4)).take 4))]):=Lib.hid (by rw[vk,cQ]);have dF:unbe ((rest.drop (8*k)).take 4)<4294967296:=xY;have fj:unbe ((rest.drop (8*k+4)).take 4)<4294967296:=xY;(have gO:∀g,blk A2=some g→¬(w.heap.size≤g∧g<w1.heap.size):=fun g hg h=>by have:=(ho.blk_lt hg).1;omega);(first|(have qq29:=qq29;have GX:w.heap.size≤vb∧vb<w1.heap.size:=hR.inF rfl)|(have GX:w.heap.size≤vb∧vb<w1.heap.size:=hR.inF));(have I2:∀g,blk A2=some g→some vb≠some g:=fun g hg e=>by injection e with e;subst e;exact gO _ hg GX);clear cQ sh gG;generalize unbe ((rest.drop (8*k)).take 4)=v1 at*;generalize unbe ((rest.drop (8*k+4)).take 4)=v2 at*;have fw:IntKind.u32.wrap ((v1:Nat):Int)=(v1:Int):=IntWalk.u32_in _ ⟨by omega,by omega⟩;have om:IntKind.u32.wrap ((v2:Nat):Int)=(v2:Int):=IntWalk.u32_in _ ⟨by omega,by omega⟩;have nS:=Lib.hid bK;(have i5:out.length≤1000:=by omega);clear bK;go_wp2_with(with_reducible refine h_A ?_);refine eK.mono ?_;rintro e w5 ⟨rfl,ew,bc⟩;have bz:=bO.grown bc bO.size Wx;have ct:OwnS w5 w1.heap.size A2 out.length c2 out:=vj ho bc I2;have fY:w1.heap.size≤w5.heap.size:=Nat.le_trans hz bc.size;(first|(have qq29:=qq29;have eS:=yn ew 4 Wq Wq)|(have eS:=yG ew 4 Wq Wq));rw[dU]at eS;clear eK bc dU;go_wp2_with(with_reducible refine h_A ?_);refine eS.mono ?_;rintro e w6 ⟨rfl,bF,bm⟩;have bH:=bz.grown bm bz.size Wx;have bS:OwnS w6 w1.heap.size A2 out.length c2 out:=vj ct bm I2;have ej:w1.heap.size≤w6.heap.size:=Nat.le_trans fY bm.size;clear eS bm ew ct ho hR;go_wp2_with(with_reducible refine h_A ?_);refine zc (VP slS underlying74 rfl rfl rfl rfl rfl v1 v2 rfl rfl bS Wq ej ?_);intro A7 c7 w7 dJ H9 _ Bq;have BJ:=bF.kept H9 gO;have uV:w1.heap.size≤w7.heap.size:=Nat.le_trans ej H9.size;have dY:=bH.trans (Bq.mono (by have:=Ha.size;omega));go_wp2_with(with_reducible refine h_A ?_);have bK:=nS.out
   first
   | have qq29:=qq29
     exact⟨⟨k+1,c7,A7,out++ [(v1,v2)],by omega,by go_num,by simp,R0.out.symm,by simpa using dJ,BJ,uV,dY⟩,by simp[intOf];omega⟩
   | have pM:=ar.out
     have sh:=MN.out;exact⟨⟨k+1,k8+8,c7,A7,out++ [(v1,v2)],by omega,by go_num,by omega,by simp,R0.out.symm,by simpa using dJ,BJ,uV,dY⟩,by simp[intOf];omega⟩
  obtain rfl:k=Q:=by omega
  first
  | have qq29:=qq29
    have Rr:decide ((k:Int)<(k:Int))=false:=by simp
  | have Rr:¬(k8:Int)<(N:Int):=fun h=>absurd (Co.1 h) Wq
    clear pM Co
  have bJ:=kL k rest;rw[←cQ]at bJ;first|(have qq29:=qq29;have B1:=XB A2 out.length c2 out _ wr ho.rd bJ (Nat.le_refl _) Wq)|(have B1:=Yx A2 out.length c2 out _ wr ho.rd bJ (Nat.le_refl _) Wq)
  have HO:=Lib.hid cQ;have Hf:=Ha.size
  cases sp:zW out
  ·rw[sp]at B1;(have hx:zO b=5:=by rw[v5.out,←HO.out,sp];rfl);have HE:=Lib.hid (xZ hx Wq);have HX:=Lib.hid hx;clear hx cQ sp bK;go_wp2_with(with_reducible refine h_A ?_);refine B1.mono ?_;rintro e w8 ⟨rfl,Be⟩;have Bh:=bO.trans (Be.mono bO.size);go_wp2_with(with_reducible refine h_A ?_);go_ret3;rw[HE.out.1,HE.out.2,HX.out];exact⟨none,0,rfl,Own.none_ _ _ _ _,Bh⟩
  rw[sp]at B1;have hx:zO b=0:=by rw[v5.out,←HO.out,sp];rfl
  have rN:=LF.out hx;rw[←HO.out]at rN;have HG:=Lib.hid rN;have HX:=Lib.hid hx;have om:IntKind.i64.wrap ((N:Int)+2)=((N+2:Nat):Int):=by rw[IntWalk.i64_in _ ⟨by omega,by omega⟩];omega
  clear hx cQ sp rN bK;go_wp2_with(with_reducible refine h_A ?_);refine B1.mono ?_;rintro e w8 ⟨rfl,Be⟩;have Bh:=bO.trans (Be.mono bO.size);have dS:=Yv ho Be;have dt:=dS.base_le Hf;go_wp2_with(with_reducible refine h_A ?_);go_ret3;rw[HG.out.1,HG.out.2,HX.out];exact⟨A2,c2,by first|rfl|simp,dt,Bh⟩
 have qqim:=()
 exact Z43_):p:=h
theorem Z4k_(h:p:=by
 have cZ:=mT.out w3 Hh;go_wp2_with(with_reducible refine h_B ?_);refine cZ.mono ?_;rintro e w4 ⟨rfl,Hn⟩;have Bv:=zi Bx Hn;have bz:=Hh.trans (Hn.mono (Nat.le_trans Hf Hh.size));have Bt:KB w w4 (blk A):=⟨Nat.le_trans BO.1 Hn.size,fun g hg hne=>(Hn.block g (Nat.lt_of_lt_of_le hg BO.1)).trans (BO.2 g hg hne)⟩;clear Hy Hw Bx Hh Hn BO cZ;clear x0 x1 x2 x3 x4 x5 x6 x7 x8 x9 xA xB;clear y0 y1 y2 y3 y4 y5 y6 y7 y8 y9 yA yB;go_wp2_with(with_reducible refine h_A ?_);go_ret2
 exact⟨A3,_,c3,rfl,bz,Bt,fun _=>⟨by simp[cX],(by have:=Bv;rw[←List.map_append]at this;exact this)⟩⟩):p:=h
theorem Z9_(h:p:=by
 first
 | have qq2c:=qq2c
   (have hM:puts [] a.n 4=be 4 a.n:=by unfold puts;rw[if_pos WJ];rfl);have m4:(be 4 a.n).length≤4:=by simp[be]
   have ca:=fun W=>yR none 0 0 [] a.n 4 W (Rd.nil _ _ _ _ WX _) Wq Wq
 | have qq2b:=qq2b
   (have hM:puts [] a.n 2=be 2 a.n:=by unfold puts;rw[if_pos WJ];rfl);have m4:(be 2 a.n).length≤4:=by simp[be]
   have ca:=fun W=>yR none 0 0 [] a.n 2 W (Rd.nil _ _ _ _ WX _) Wq Wq
 | have hM:puts [] a.n 1=be 1 a.n:=by unfold puts;rw[if_pos WJ];rfl
   (have m4:(be 1 a.n).length≤4:=by simp[be]);have ca:=fun W=>yR none 0 0 [] a.n 1 W (Rd.nil _ _ _ _ WX _) Wq Wq
 rw[hM]at ca;have nE:=fun W=>run_makeMap (P:=prog) 186 W
 have cZ:∀W,Below base w W→Calls prog 106 #[.agg #[.bool a.is,.int .u64 (a.n:Int),.string (str a.s),.int .u32 (a.x.fmt:Int),.string (str a.x.glob),.string (str a.x.bran),.slice h.A a.q.length h.c,.int .u8 (a.v.kind:Int),.int .u64 (a.v.n:Int),.string (str a.v.s),.slice h.h.A1 a.v.keys.length h.h.c1,.slice h.h.A2 a.v.list.length h.h.c2],.agg #[.bool true,.int .u64 (a.n:Int),.string ⟨#[]⟩,.int .u32 0,.string ⟨#[]⟩,.string ⟨#[]⟩,.slice none 0 0,.int .u8 0,.int .u64 0,.string ⟨#[]⟩,.slice none 0 0,.slice none 0 0]] W (fun e w'=>e= .returned (.bool (zw a (agN a)))∧Below W.heap.size W w'):=fun W hW=>xI a (agN a) h ah0 W ((ha.under hW).mono (fun g hg=>Nat.lt_of_lt_of_le hg (Nat.le_trans Hf hW.size))) (((RA.ofN ha:RA w (fun g=>g<base) (agN a) ah0).under hW).mono (fun g hg=>Nat.lt_of_lt_of_le hg (Nat.le_trans Hf hW.size)))
 generalize Cl:zw a (agN a)=sr at cZ;have mT:=Lib.hid cZ;clear cZ;first|(have qq2c:=qq2c;generalize be 4 a.n=M at*)|(have qq2b:=qq2b;generalize be 2 a.n=M at*)|(generalize be 1 a.n=M at*)
 clear hM;obtain⟨ab,rb,v0,dZ,eB,bh,bo,bV,Hr⟩:=qS w #[.bool a.is,.int .u64 (a.n:Int),.string (str a.s),.int .u32 (a.x.fmt:Int),.string (str a.x.glob),.string (str a.x.bran),.slice h.A a.q.length h.c,.int .u8 (a.v.kind:Int),.int .u64 (a.v.n:Int),.string (str a.v.s),.slice h.h.A1 a.v.keys.length h.h.c1,.slice h.h.A2 a.v.list.length h.h.c2] #[.bool true,.int .u64 0,.string ⟨#[]⟩,.int .u32 0,.string ⟨#[]⟩,.string ⟨#[]⟩,.slice none 0 0,.int .u8 0,.int .u64 0,.string ⟨#[]⟩,.slice none 0 0,.slice none 0 0] 80;have Br:w.heap.size≤ab:=by omega
 have ui:ab<rb:=by omega
 have Bc:∀g,blk A=some g→g<ab:=fun g hg=>by have:=(Hl.blk_lt hg).2;omega
 have eY:∀g,blk A=some g→base≤g:=fun g hg=>(Hl.blk_lt hg).1
 have H4:=zi Hl Hr;have HU:Below w.heap.size w v0:=Hr;have cg:=bV.lt;have fo:=cg;have cX:l.length=n:=RdB.length Hl.rd;unfold agV;have HA:=Lib.hid ha;clear ha;go_enter func71,ntmps71;go_upto_region 2 with fail;rw[←eB,←dZ,←bh];clear dZ eB bh Hl Hr;have Hp:=World.ownsMap_made v0 prog 5 (plainElem (H:=Unit) prog 3);have bo:=bo.alloc (.map #[] 0);have bV:=bV.alloc (.map #[] 0);have H4:=H4.alloc (.map #[] 0);have HU:=HU.alloc HU.size (.map #[] 0);go_wp2_with(with_reducible refine h_M ?_);obtain⟨mb,cx⟩:∃m,m=v0.heap.size:=⟨_,rfl⟩
 rw[←cx]at Hp cg ⊢;clear cx nE;generalize(v0.alloc (.map #[] 0))=v1 at*;refine zc (zl (H:=Unit) _ rfl _ _ _ 186 rfl 5 3 zz underlying186 (plainElem (H:=Unit) prog 3) _ _ _ rfl Hp WX _ _ (.int .u8 110) rfl rfl (Maps.keyOf_int_mk underlying5 WJ) (.lit (.int .i64 1)) [] (plainElem_int underlying3 WJ) ?_);intro v2 Hs bN;have bo:=bo.grown bN (sne Wq);have bV:=bV.grown bN (sne Wq);have H4:=zk H4 bN uz;have HU:=HU.grown bN HU.size Wx;clear Hp bN;have Hp:=Hs;clear Hs;go_wp2_with(with_reducible refine h_M ?_);refine zc (zl (H:=Unit) _ rfl _ _ _ 186 rfl 5 3 zz underlying186 (plainElem (H:=Unit) prog 3) _ _ _ rfl Hp WX _ _ (.int .u8 119) rfl rfl (Maps.keyOf_int_mk underlying5 WJ) (.lit (.int .i64 2)) [] (plainElem_int underlying3 WJ) ?_);intro v3 Hs bN;have bo:=bo.grown bN (sne Wq);have bV:=bV.grown bN (sne Wq);have H4:=zk H4 bN uz;have HU:=HU.grown bN HU.size Wx;clear Hp bN;have Hp:=Hs;clear Hs;go_wp2_with(with_reducible refine h_M ?_);refine zc (zl (H:=Unit) _ rfl _ _ _ 186 rfl 5 3 zz underlying186 (plainElem (H:=Unit) prog 3) _ _ _ rfl Hp WX _ _ (.int .u8 100) rfl rfl (Maps.keyOf_int_mk underlying5 WJ) (.lit (.int .i64 4)) [] (plainElem_int underlying3 WJ) ?_);intro v4 Hs bN;have bo:=bo.grown bN (sne Wq);have bV:=bV.grown bN (sne Wq);have H4:=zk H4 bN uz;have HU:=HU.grown bN HU.size Wx;clear Hp bN
 first
 | have qq2c:=qq2c
   obtain⟨cc,bv,fd,_⟩:=Hs.lookup_int (t:=186) zz underlying186 underlying3 (zeroValue3 _) (key:=.int .u8 100) (kl:=.int .u8 100) (Maps.keyOf_int_mk underlying5 WJ)
   have dx:DataW.lit (H:=Unit) (.int .i64 4)= .lit (.int .i64 cc):=Eq.trans Wj fd
 | have qq2b:=qq2b
   obtain⟨cc,bv,fd,_⟩:=Hs.lookup_int (t:=186) zz underlying186 underlying3 (zeroValue3 _) (key:=.int .u8 119) (kl:=.int .u8 119) (Maps.keyOf_int_mk underlying5 WJ)
   have dx:DataW.lit (H:=Unit) (.int .i64 2)= .lit (.int .i64 cc):=Eq.trans Wj fd
 | obtain⟨cc,bv,fd,_⟩:=Hs.lookup_int (t:=186) zz underlying186 underlying3 (zeroValue3 _) (key:=.int .u8 110) (kl:=.int .u8 110) (Maps.keyOf_int_mk underlying5 WJ)
   have dx:DataW.lit (H:=Unit) (.int .i64 1)= .lit (.int .i64 cc):=Eq.trans Wj fd
 injection dx with dx
 injection dx with _ dx
 subst dx;clear fd;have x0:=bo.c0;have x1:=bo.c1;have x2:=bo.c2;have x3:=bo.c3;have x4:=bo.c4;have x5:=bo.c5;have x6:=bo.c6;have x7:=bo.c7;have x8:=bo.c8;have x9:=bo.c9;have xA:=bo.c10;have xB:=bo.c11;go_wp2_with(with_reducible refine h_M ?_);refine(ca _).mono ?_;rintro e w1 ⟨A1,c1,rfl,cY,BB⟩;have Ht:=bo.below BB;have dH:=bV.below BB;have BK:=zi H4 BB;have Ha:=HU.trans (BB.mono HU.size);have fo:rb<v4.heap.size:=bV.lt;clear bo bV H4 HU BB ca bv Hs;clear x0 x1 x2 x3 x4 x5 x6 x7 x8 x9 xA xB;have x0:=Ht.c0;have x1:=Ht.c1;have x2:=Ht.c2;have x3:=Ht.c3;have x4:=Ht.c4;have x5:=Ht.c5;have x6:=Ht.c6;have x7:=Ht.c7;have x8:=Ht.c8;have x9:=Ht.c9;have xA:=Ht.c10;have xB:=Ht.c11;go_wp2_with(with_reducible refine h_B ?_);refine zc (zm (v:=.int .u64 (a.n:Int)) (vs:=[.int .u64 (a.n:Int)]) rfl rfl rfl rfl dH rfl Wj Wz UZ #[.bool true,.int .u64 (a.n:Int),.string ⟨#[]⟩,.int .u32 0,.string ⟨#[]⟩,.string ⟨#[]⟩,.slice none 0 0,.int .u8 0,.int .u64 0,.string ⟨#[]⟩,.slice none 0 0,.slice none 0 0] Wz ?_);intro w2 Hu Hm _;have Hv:=Ht.grown Hm (sne Wq);have Bl:=zk BK Hm uz;have bW:=zk cY Hm (fun g hg e=>by injection e with e;have:=(cY.blk_lt hg).1;omega);have Hc:=Ha.grown Hm Ha.size Wx;have cj:=Nat.le_trans Hf Hc.size;clear Ht dH BK cY Hm Ha;clear x0 x1 x2 x3 x4 x5 x6 x7 x8 x9 xA xB;have x0:=Hv.c0;have x1:=Hv.c1;have x2:=Hv.c2;have x3:=Hv.c3;have x4:=Hv.c4;have x5:=Hv.c5;have x6:=Hv.c6;have x7:=Hv.c7;have x8:=Hv.c8;have x9:=Hv.c9;have xA:=Hv.c10;have xB:=Hv.c11;have y0:=Hu.c0;have y1:=Hu.c1;have y2:=Hu.c2;have y3:=Hu.c3;have y4:=Hu.c4;have y5:=Hu.c5;have y6:=Hu.c6;have y7:=Hu.c7;have y8:=Hu.c8;have y9:=Hu.c9;have yA:=Hu.c10;have yB:=Hu.c11;go_wp2_with(with_reducible refine h_B ?_);refine zc (yc slB rfl rfl rfl rfl Bl bW.rd (zM _) Wq Hj cj ?_);intro A3 c3 w3 Bx H7 bX;have Hy:=Hv.grown H7 Nj;have Hw:=Hu.grown H7 Nj;have Hh:=(Hc.mono Hf).grown H7 cj (fun g hg=>eY g hg);have BO:KB w w3 (blk A):=⟨Nat.le_trans Hc.size H7.size,fun g hg hne=>(H7.block g (Nat.lt_of_lt_of_le hg Hc.size) (fun e=>hne e.symm)).trans (Hc.block g hg)⟩;clear x0 x1 x2 x3 x4 x5 x6 x7 x8 x9 xA xB;clear y0 y1 y2 y3 y4 y5 y6 y7 y8 y9 yA yB;clear Hv Hu Bl bW H7 Hc bX;have x0:=Hy.c0;have x1:=Hy.c1;have x2:=Hy.c2;have x3:=Hy.c3;have x4:=Hy.c4;have x5:=Hy.c5;have x6:=Hy.c6;have x7:=Hy.c7;have x8:=Hy.c8;have x9:=Hy.c9;have xA:=Hy.c10;have xB:=Hy.c11;have y0:=Hw.c0;have y1:=Hw.c1;have y2:=Hw.c2;have y3:=Hw.c3;have y4:=Hw.c4;have y5:=Hw.c5;have y6:=Hw.c6;have y7:=Hw.c7;have y8:=Hw.c8;have y9:=Hw.c9;have yA:=Hw.c10;have yB:=Hw.c11
 exact Z4k_):p:=h
theorem Z4c_(h:p:=by
 have h1:=tG.out;rw[qt,Bool.and_eq_true,List.all_eq_true]at h1;have h2:=h1.1 _ (List.getElem_mem mg);unfold jf at h2;simp only[Bool.and_eq_true,decide_eq_true_eq]at h2
 exact h2.1.2):p:=h
theorem Z58_(h:p:=by
 have h:=HC.out;rw[List.drop_eq_nil_of_le (show v.list.length≤i by rw[←HN.out];omega),xX,List.append_nil]at h
 exact h):p:=h
end Go.PH
