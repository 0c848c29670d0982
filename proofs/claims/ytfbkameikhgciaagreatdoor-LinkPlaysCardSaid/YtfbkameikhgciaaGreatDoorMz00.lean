/- Proofs that stand several times. -/
import Derived.Shelf.Utf8.RuneCount
import Derived.Shelf.Strings.Search1
import Derived.Shelf.Strings.Search2
import Derived.Shelf.Strings.Search3
import Derived.Shelf.Strings.Count
import Derived.Shelf.LaysM
import Derived.Shelf.Strings.Shaped
import Derived.Shelf.Strings.Split
import Derived.Shelf.Strings.SplitShaped
import Derived.Shelf.Unicode.Decode
import Derived.Shelf.Strings.RuneCount
import Derived.Shelf.Strings.Explode
import Derived.Shelf.Unicode.DecodeSlow
import Derived.Shelf.Unicode.DecodeAny
import Derived.Shelf.Slices.Equal
import Derived.Shelf.Slices.Empties2
import Derived.Shelf.Bytes.SlSearch0
import Derived.Ground.SlbCloneProg
import Derived.Shelf.Bytes.SlClone
import Derived.Shelf.Bytes.SlEqualAll
import Derived.Shelf.Bytes.Small
import Derived.WalkKit
import Derived.Lib.Hide
import Derived.Deep.Draws
import Derived.Laws.CopyOwn
import Derived.Deep.AppendLies
import Derived.Maps.AppendAt
import Derived.Deep.DeepAppendRoom
import Derived.Lib.AppendStr
import Derived.Maps.RangeWalk
import Derived.Maps.Views
import Derived.WideKeyEntry
import Derived.Maps.OwnSet
import Derived.Deep.DeepAppendWide
import Derived.Laws.CopyRow
import Derived.Laws.Tables
import Derived.Laws.ResultCell
import Derived.Deep.AppendSrc
import Derived.Deep.Upon
import Derived.Maps.OwnOps
import Derived.OrdersHeld
import Derived.Deep.RegionHeld3
import Derived.ProofKit
import Derived.OpenShut
import Derived.Deep.DeepHandedRow
import Derived.Lib.LaidTab
import Derived.SizedLaws
import Derived.Deep.Slices
import Derived.Deep.QuietTactic
import Derived.BigQuiet
import Derived.Laws.BitsAllLaws
import Derived.Laws.Bits64
import Derived.Lib.Builder
import Derived.Lib.UnsafeStr
import Derived.Laws.Externs
import Derived.RegionTactic
import Derived.BigRegion
import Derived.Deep.RegionWith
import Derived.DeepKeys4
import Derived.Deep.Cut
import Derived.WalkSpells
import Derived.Lib.LazyBuf
import Derived.Laws.StructEq
import Derived.Lib.ConvBytes
import Derived.Deep.CutRange
import Derived.WalkMore
import Derived.Lib.SplitLaws
import Derived.Deep.DeepCutAuto
import Derived.WalkLawsBesides
import Derived.Lib.DecodeN
import Derived.Lib.TrimU
import Derived.Lib.OthersKept
import Derived.Lib.LaidU8
import Derived.StringKeys
import Derived.Defers
import Derived.Recover
import Derived.Deep.CutBlock
import Derived.Lib.Bytealg
set_option linter.all false
set_option maxRecDepth 100000
set_option maxHeartbeats 8000000
namespace Go.PH
open Go.RowKit Go.Proofs
variable {p : Prop}
theorem Wj(h:p:=by kernel_rfl):p:=h
theorem Wq(h:p:=by omega):p:=h
theorem Wx(h:p:=by exact(fun g hg=>by injection hg with hg;omega)):p:=h
theorem Wz(h:p:=by simp):p:=h
theorem WJ(h:p:=by decide):p:=h
theorem WQ(h:p:=by intro u hu;simp at hu;rcases hu with rfl|rfl|rfl|rfl|rfl<;>rfl):p:=h
theorem WX(h:p:=by simp[maxLen]):p:=h
theorem WZ(h:p:=by simp[Value.oneCell']):p:=h
theorem wj(h:p:=by intro e;have:=Bx _ e.symm;omega):p:=h
theorem wJ(h:p:=by exact(fun g' Ho bH=>by injection Ho with Ho;have:=hF g' bH;omega)):p:=h
theorem wQ(h:p:=by exact(fun g hg=>by have:=Bx g hg;exact⟨by omega,.inr (.inr this.2)⟩)):p:=h
theorem wX(h:p:=by simp;rfl):p:=h
theorem wZ(h:p:=by exact(fun g hg bH=>by injection hg with hg;have:=hF g bH;omega)):p:=h
theorem Hj(h:p:=by unfold maxLen;omega):p:=h
theorem Hq(h:p:=by injection hg with hg;exact hg.symm):p:=h
theorem Hx(h:p:=by intro e;injection e with e;have:=hg.1;omega):p:=h
theorem Hz(h:p:=by simp;omega):p:=h
theorem uj(h:p:=by injection hk with hk;exact hk.symm):p:=h
theorem uq(h:p:=by exact(fun e=>by injection e with e;omega)):p:=h
theorem ux(h:p:=by exact(fun g hg e=>by injection e with e;have:=Bb g hg;omega)):p:=h
theorem uz(h:p:=by exact(fun g hg bH=>by have:=Bx g hg;have:=hF g bH;omega)):p:=h
theorem uJ(h:p:=by exact(fun e g hg=>by rw[e]at hg;injection hg with hg;exact Nat.le_of_eq hg)):p:=h
theorem uQ(h:p:=by injection e with e;exact e.symm):p:=h
theorem uX(h:p:=by exact(fun g hg=>by injection hg with hg;subst hg;exact⟨dx.1,.inl rfl⟩)):p:=h
theorem uZ(h:p:=by intro u hu;simp at hu;rcases hu with rfl|rfl|rfl|rfl<;>rfl):p:=h
theorem Uj(h:p:=by exact(fun g hg=>by injection hg with hg;exact⟨by omega,.inl hg.symm⟩)):p:=h
theorem Uq(h:p:=by have:(vlC (x,hx)).length=5:=rfl;omega):p:=h
theorem Ux(h:p:=by injection e with e;rw[←e];exact h0.lb):p:=h
theorem Uz(h:p:=by rw[Bz.out];simp[okA,zy,ag0,agN,agS,agX,agQ,agX2,xd0,cF.out,HS.out,HX.out,HQ.out,HV.out]):p:=h
theorem UJ(h:p:=by simp[maxLen];omega):p:=h
theorem UQ(h:p:=by exact(fun g e=>by injection e with e;subst e;exact⟨rH.1,.inr (.inl rfl)⟩)):p:=h
theorem UX(h:p:=by injection e with e;rw[←e];exact h1.lb):p:=h
theorem UZ(h:p:=by intro u hu;simp at hu;rcases hu with rfl<;>rfl):p:=h
theorem mj(h:p:=by intro u hu;simp at hu;rcases hu with rfl|rfl|rfl<;>rfl):p:=h
theorem mq(h:p:=by intro h;cases h):p:=h
theorem mz(h:p:=by intro e;have e2:ob=zb:=(by simpa using e);omega):p:=h
theorem mJ(h:p:=by exact(fun g hg=>by have h9:some lb=some g:=hg;injection h9 with h9;omega)):p:=h
theorem mQ(h:p:=by have:=hX.lt;omega):p:=h
theorem mX(h:p:=by rw[List.length_drop];omega):p:=h
theorem mZ(h:p:=by rw[Bz.out];simp[okA,zy,ag0,agN,agS,agX,agQ,agX2,xd0,cF.out,HN.out,HX.out,HQ.out,HV.out]):p:=h
theorem Mj(h:p:=by exact(fun iG=>by have:=(hF ab iG).1;omega)):p:=h
theorem Mq(h:p:=by intro e;have:=(cN.blk_lt e.symm).1;omega):p:=h
theorem Mx(h:p:=by exact(fun k hk=>⟨fun e=>rO (e▸hk),fun e=>by have:=BX k hk;have:=EU k e;omega⟩)):p:=h
theorem Mz(h:p:=by exact(fun h=>by cases h)):p:=h
theorem MJ(h:p:=by injection hg with hg;rw[←hg];exact hF):p:=h
theorem MQ(h:p:=by have Ho:w.drew.heap[gb]?=some (.cells cur 5 (0,0)):=hg;simp[World.shape?,Ho]):p:=h
theorem MX(h:p:=by rw[←HN.out];omega):p:=h
theorem MZ(h:p:=by first|rfl|rw[eJ]):p:=h
theorem nj(h:p:=by exact(fun x hx=>by have:=Bk.out x hx;omega)):p:=h
theorem nz(h:p:=by rw[HN.out];omega):p:=h
theorem nJ(h:p:=by exact(fun g hg=>by injection hg with hg;subst hg;exact⟨rH.1,.inr (.inl rfl)⟩)):p:=h
theorem nQ(h:p:=by intro u hu;simp at hu;subst hu;rfl):p:=h
theorem nX(h:p:=by exact(fun g hg=>by injection hg with hg;exact⟨by omega,.inr (.inl hg.symm)⟩)):p:=h
theorem nZ(h:p:=by have:hdrB.length=8:=rfl;omega):p:=h
theorem Nj(h:p:=by intro e;have:=Bb _ e.symm;omega):p:=h
theorem Nq(h:p:=by rw[←HC.out,HD.out,hp];simp):p:=h
theorem Nx(h:p:=by have:=HN.out;omega):p:=h
theorem Nz(h:p:=by rw[←HC.out,HD.out,hs];rfl):p:=h
theorem NJ(h:p:=by rw[←HC.out,HD.out,hp];rfl):p:=h
theorem NQ(h:p:=by simpa using h):p:=h
theorem NX(h:p:=by injection e):p:=h
theorem NZ(h:p:=by rw[dY.out];omega):p:=h
theorem zAa(h:p:=by have:=ew.size;omega):p:=h
theorem zAb(h:p:=by rw[hk,←e]):p:=h
theorem zAc(h:p:=by exact(fun k hk=>by cases hk)):p:=h
theorem zAd(h:p:=by rw[HT.out,HE.out];simp):p:=h
theorem zAe(h:p:=by intro e;cases e):p:=h
theorem zAf(h:p:=by exact(fun e=>by cases e)):p:=h
theorem zAg(h:p:=by exact(fun e=>by omega)):p:=h
theorem zAh(h:p:=by simpa using hl):p:=h
theorem zAi(h:p:=by rw[e];rfl):p:=h
theorem Z3o_(h:p:=by
 first
 | done
 | have qqiy:=qqiy
   refine zK (g:=g) (j:=xs.length*5) (v:=.agg #[.int .u8 (x.kind:Int),.int .u64 (x.n:Int),.string (str x.s),.slice hx.A1 x.keys.length hx.c1,.slice hx.A2 x.list.length hx.c2]) (vs:=vlC (x,hx)) rfl rfl rfl BT rfl Wj Uq (vlShape.one _) _ rfl ?_;intro w8 Bh H5 _;have cE:=bY.setlast dg (dp (x,hx) w8 _ rfl Bh) H5;have cq:=bA.grown H5 (sne Wq);have dn:=Be.grown H5 (sne Wq);have BS:=bE.kept H5 wJ;have bT:=bv.grown hBa H5 (fun g' Ho=>by injection Ho with Ho;exact⟨by omega,.inr (.inr Wq)⟩);clear bY bA Be bE bv dg H5 BT Bh;have bY:=cE;have bA:=cq;have Be:=dn;have bE:=BS;have bv:=bT;clear cE cq dn BS bT;refine bB _ _ trivial ?_;clear bB K
   refine zj 15 rfl Wj rfl (fun K bB=>?_)
 | have qqix:=qqix
 | have qqgc:=qqgc
   refine zK (g:=g) (j:=xs.length*5) (v:=.agg #[.int .u8 (x.kind:Int),.int .u64 (x.n:Int),.string (str x.s),.slice hx.A1 x.keys.length hx.c1,.slice hx.A2 x.list.length hx.c2]) (vs:=vlC (x,hx)) rfl rfl rfl BT rfl Wj Uq (vlShape.one _) _ rfl ?_;intro w8 Bh H5 _;have cE:=bY.setlast dg (dp (x,hx) w8 _ rfl Bh) H5;have cq:=bA.grown H5 (sne Wq);have dn:=Be.grown H5 (sne Wq);have BS:=bE.kept H5 wJ;have bT:=bv.grown hBa H5 (fun g' Ho=>by injection Ho with Ho;exact⟨by omega,.inr (.inr Wq)⟩);clear bY bA Be bE bv dg H5 BT Bh;have bY:=cE;have bA:=cq;have Be:=dn;have bE:=BS;have bv:=bT;clear cE cq dn BS bT;refine bB _ _ trivial ?_;clear bB K
   refine zj 15 rfl Wj rfl (fun K bB=>?_)
 | have qqgb:=qqgb
   refine zK (g:=g) (j:=xs.length*5) (v:=.agg #[.int .u8 (x.kind:Int),.int .u64 (x.n:Int),.string (str x.s),.slice hx.A1 x.keys.length hx.c1,.slice hx.A2 x.list.length hx.c2]) (vs:=vlC (x,hx)) rfl rfl rfl BT rfl Wj Uq (vlShape.one _) _ rfl ?_;intro w8 Bh H5 _;have cE:=bY.setlast dg (dp (x,hx) w8 _ rfl Bh) H5;have cq:=bA.grown H5 (sne Wq);have dn:=Be.grown H5 (sne Wq);have BS:=bE.kept H5 wJ;have bT:=bv.grown hBa H5 (fun g' Ho=>by injection Ho with Ho;exact⟨by omega,.inr (.inr Wq)⟩);clear bY bA Be bE bv dg H5 BT Bh;have bY:=cE;have bA:=cq;have Be:=dn;have bE:=BS;have bv:=bT;clear cE cq dn BS bT;refine bB _ _ trivial ?_;clear bB K
   refine zj 15 rfl Wj rfl (fun K bB=>?_)
 | have qqga:=qqga
   refine zK (g:=g) (j:=xs.length*5) (v:=.agg #[.int .u8 (x.kind:Int),.int .u64 (x.n:Int),.string (str x.s),.slice hx.A1 x.keys.length hx.c1,.slice hx.A2 x.list.length hx.c2]) (vs:=vlC (x,hx)) rfl rfl rfl BT rfl Wj Uq (vlShape.one _) _ rfl ?_;intro w8 Bh H5 _;have cE:=bY.setlast dg (dp (x,hx) w8 _ rfl Bh) H5;have cq:=bA.grown H5 (sne Wq);have dn:=Be.grown H5 (sne Wq);have BS:=bE.kept H5 wJ;have bT:=bv.grown hBa H5 (fun g' Ho=>by injection Ho with Ho;exact⟨by omega,.inr (.inr Wq)⟩);clear bY bA Be bE bv dg H5 BT Bh;have bY:=cE;have bA:=cq;have Be:=dn;have bE:=BS;have bv:=bT;clear cE cq dn BS bT;refine bB _ _ trivial ?_;clear bB K
   refine zj 15 rfl Wj rfl (fun K bB=>?_)
 | have qqg9:=qqg9
   refine zK (g:=g) (j:=xs.length*5) (v:=.agg #[.int .u8 (x.kind:Int),.int .u64 (x.n:Int),.string (str x.s),.slice hx.A1 x.keys.length hx.c1,.slice hx.A2 x.list.length hx.c2]) (vs:=vlC (x,hx)) rfl rfl rfl BT rfl Wj Uq (vlShape.one _) _ rfl ?_;intro w8 Bh H5 _;have cE:=bY.setlast dg (dp (x,hx) w8 _ rfl Bh) H5;have cq:=bA.grown H5 (sne Wq);have dn:=Be.grown H5 (sne Wq);have BS:=bE.kept H5 wJ;have bT:=bv.grown hBa H5 (fun g' Ho=>by injection Ho with Ho;exact⟨by omega,.inr (.inr Wq)⟩);clear bY bA Be bE bv dg H5 BT Bh;have bY:=cE;have bA:=cq;have Be:=dn;have bE:=BS;have bv:=bT;clear cE cq dn BS bT;refine bB _ _ trivial ?_;clear bB K
   refine zj 15 rfl Wj rfl (fun K bB=>?_)
 | skip
 refine zK (g:=xb) (j:=4) (v:=.slice (some ⟨g,0,none⟩) (xs.length+1) c4) (vs:=[.slice (some ⟨g,0,none⟩) (xs.length+1) c4]) rfl rfl rfl bA rfl Wj Wz wX #[.int .u8 kd,.int .u64 0,.string ⟨#[]⟩,.slice fQ co.length gY,.slice (some ⟨g,0,none⟩) (xs.length+1) c4] Wz ?_;intro w7 Bt H7 _;replace bY:=bY.box H7 Wq;have fd:=Be.grown H7 (sne Wq);have BJ:=bE.kept H7 wJ;have BA:=bv.grown hBa H7 (fun g' Ho=>by injection Ho with Ho;exact⟨by omega,.inr (.inr Wq)⟩);try replace dg:=(dg.keep (fun g' Ho=>H7.block g' Ho.2.1 (by intro e;injection e with e;have:=Ho.1;omega)) H7.size).mono (fun g' Ho=>(⟨Ho.1,Nat.lt_of_lt_of_le Ho.2.1 H7.size,Ho.2.2⟩:FB2 (xb+1) _ _ w7 g'))
 clear bA Be bE bv;have bA:=Bt;have Be:=fd;have bE:=BJ;have bv:=BA;clear Bt fd BJ BA
 first
 | done
 | have qqiy:=qqiy
 | have qqix:=qqix
   refine bB _ _ trivial ?_;clear bB K;replace BT:=BT.grown H7 (sne Wq);refine zj 12 rfl Wj rfl (fun K bB=>?_);refine zK (g:=g) (j:=xs.length*5) (v:=.agg #[.int .u8 (x.kind:Int),.int .u64 (x.n:Int),.string (str x.s),.slice hx.A1 x.keys.length hx.c1,.slice hx.A2 x.list.length hx.c2]) (vs:=vlC (x,hx)) rfl rfl rfl BT rfl Wj Uq (vlShape.one _) _ rfl ?_;intro w8 Bh H5 _;have cE:=bY.setlast dg (dp (x,hx) w8 _ rfl Bh) H5;have cq:=bA.grown H5 (sne Wq);have dn:=Be.grown H5 (sne Wq);have BS:=bE.kept H5 wJ;have bT:=bv.grown hBa H5 (fun g' Ho=>by injection Ho with Ho;exact⟨by omega,.inr (.inr Wq)⟩);clear bY bA Be bE bv dg H5 BT Bh;have bY:=cE;have bA:=cq;have Be:=dn;have bE:=BS;have bv:=bT
   clear cE cq dn BS bT
 | have qqgc:=qqgc
 | have qqgb:=qqgb
 | have qqga:=qqga
 | have qqg9:=qqg9
 | refine bB _ _ trivial ?_
   clear bB K;replace BT:=BT.grown H7 (sne Wq);refine zj 12 rfl Wj rfl (fun K bB=>?_);refine zK (g:=g) (j:=xs.length*5) (v:=.agg #[.int .u8 (x.kind:Int),.int .u64 (x.n:Int),.string (str x.s),.slice hx.A1 x.keys.length hx.c1,.slice hx.A2 x.list.length hx.c2]) (vs:=vlC (x,hx)) rfl rfl rfl BT rfl Wj Uq (vlShape.one _) _ rfl ?_;intro w8 Bh H5 _;have cE:=bY.setlast dg (dp (x,hx) w8 _ rfl Bh) H5;have cq:=bA.grown H5 (sne Wq);have dn:=Be.grown H5 (sne Wq);have BS:=bE.kept H5 wJ;have bT:=bv.grown hBa H5 (fun g' Ho=>by injection Ho with Ho;exact⟨by omega,.inr (.inr Wq)⟩);clear bY bA Be bE bv dg H5 BT Bh;have bY:=cE;have bA:=cq;have Be:=dn;have bE:=BS;have bv:=bT;clear cE cq dn BS bT
 refine bB _ _ trivial ?_;clear bB K;refine qR Wj ?_;go_wp2_with(with_reducible refine h_A ?_)
 exact⟨⟨xs.length+1,co,fQ,gY,some ⟨g,0,none⟩,c4,xs++ [(x,hx)],lq,nq,by omega,by go_num,Lib.hid Wz,by omega,Bk,sS,bY,bE,Be,bA,bv,Lib.hid (by rw[List.map_append];exact HT.out)⟩,by simp[RowKit.intOf];omega⟩):p:=h
theorem Z3k_(h:p:=by
 first
 | done
 | have qqew:=qqew
 | have z4:=hX.c4
   go_simp;refine bB _ _ trivial ?_;clear bB K;(try simp only[g_S]);clear z4;refine ya ?_ 8 (v:=?_) rfl Wj Wj Wj trivial rfl ?_ ?_
   ·repeat(first|refine zR ?_|refine zH ?_|exact zQ _ _ _)
   rotate_left
   ·intro wS _;go_simp;(with_reducible rfl)
   (try simp only[g_S]);refine zj 9 rfl Wj rfl (fun K bB=>?_)
 go_simp;have hM:=Box.new wq #[.int .u8 0,.int .u64 0,.string ⟨#[]⟩,.slice none 0 0,.slice none 0 0] 78;have cu:=(Below.refl wq.heap.size wq).alloc (Nat.le_refl _) (.cells #[.int .u8 0,.int .u64 0,.string ⟨#[]⟩,.slice none 0 0,.slice none 0 0] 78);refine bB _ _ trivial ?_;clear bB K;try simp only[g_S]
 obtain⟨mb,cw⟩:∃g,g=wq.heap.size:=⟨_,rfl⟩
 rw[←cw]at hM ⊢;replace hS:=hS.below cu;replace hX:=hX.below cu;replace hR:=hR.below cu;replace hP:=hP.below cu;have se:a.heap.size≤mb:=by rw[cw];exact bm.size
 replace bm:=bm.below hBa cu;have i0:=cu.size;clear cw;replace hV:=(hV.keep (fun g hg=>cu.block g hg.2) i0).mono (fun g hg=>(⟨hg.1,Nat.lt_of_lt_of_le hg.2 i0⟩:FN W4 _ g));generalize(wq.alloc (.cells #[.int .u8 0,.int .u64 0,.string ⟨#[]⟩,.slice none 0 0,.slice none 0 0] 78))=wm at*
 first
 | have qqew:=qqew
   refine zj 3 rfl Wj rfl (fun K bB=>?_);have z4:=hX.c4;go_simp;refine bB _ _ trivial ?_;clear bB K;(try simp only[g_S]);clear z4;refine ya ?_ 8 (v:=?_) rfl Wj Wj Wj trivial rfl ?_ ?_
   ·repeat(first|refine zR ?_|refine zH ?_|exact zQ _ _ _)
   rotate_left
   ·intro wS _;go_simp;(with_reducible rfl)
   try simp only[g_S]
 | skip
 have BB:=dY.out;subst BB;have Bp:Own _ (xb+1) 78 5 A xs.length c (rowC vlC xs):=hS.own;refine zj 10 rfl Wj rfl (fun K bB=>?_);refine jL (ops:=#[]) slVl underlying76 rfl rfl rfl Bp (vf (n:=1) (sz:=5) hM rfl WJ) WQ Wq Hj mQ ?_;intro A4 c4 w6 bR bz ey;have iK:rowC vlC xs++(#[.int .u8 0,.int .u64 0,.string ⟨#[]⟩,.slice none 0 0,.slice none 0 0]).toList=rowC vlC (xs++ [(vl0,(⟨none,0,none,0⟩:VH))]):=by rw[ql];rfl
 rw[iK]at bR;clear iK;have BX:blk A4=blk A∨∀g,blk A4=some g→_≤g:=ey.imp id uJ
 have bY:=hS.push h4 eF (RV.zero _ _) bR bz BX;have dg:=hS.fresh h4 eF hV bz BX;have Bx:∀g',blk A=some g'→xb+1≤g'∧a.heap.size≤g':=fun g' Ho=>by have:=(hS.own.blk_lt Ho).1;omega
 have bA:=hX.grown bz wj;have Be:=hP.grown bz wj;have bE:=hR.kept bz uz;have bv:=bm.grown hBa bz wQ;refine bB _ _ trivial ?_;clear bB K;obtain⟨g,cur,rfl,eG,BT,fX,dp⟩:=km vlShape bR;clear hS hX hP hR bm hV hM Bp bz ey BX bR Bx h4;try simp only[g_S]
 have g5:(xs.length:Int)<(xs.length:Int)+1:=by omega
 have g6:xs.length<xs.length+1:=by omega
 refine ya ?_ 11 (v:=?_) rfl Wj Wj Wj trivial rfl ?_ ?_
 ·repeat(first|refine zR ?_|refine zH ?_|exact zQ _ _ _)
 rotate_left
 ·intro wS _;go_simp;(with_reducible rfl)
 try simp only[g_S]
 refine ya ?_ 13 (v:=?_) rfl Wj Wj Wj trivial rfl ?_ ?_
 ·repeat(first|refine zR ?_|refine zH ?_|exact zQ _ _ _)
 rotate_left
 ·intro wS _;go_simp;(with_reducible rfl)
 try simp only[g_S]
 refine ya ?_ 14 (v:=?_) rfl Wj Wj Wj trivial rfl ?_ ?_
 ·repeat(first|refine zR ?_|refine zH ?_|exact zQ _ _ _)
 rotate_left
 ·intro wS _;go_simp;(with_reducible rfl)
 try simp only[g_S]
 have sq:g≠xb:=by omega
 refine xP 12 15 rfl rfl Wj rfl rfl (fun K bB=>?_) (fun K bB=>?_)
 ·have qqiy:=();exact Z3o_
 have qqix:=()
 exact Z3o_):p:=h
theorem Z1_(h:p:=by
 first|(have qq1:=qq1;have cI:Hid (r=none):=Lib.hid (HN.out ns))|(have HT:=Lib.hid (NA.out q ns))
 rw[ns]at B1;clear ns HN NA
 first
 | done
 | have qq1:=qq1
 | obtain⟨x,lq,nq⟩:=q
   have sS:nq≤200:=by
    unfold qY at B1;split at B1
    ·cases B1
    exact Nat.le_trans (ZP f ni lj x lq nq B1.symm).2 OA
 refine Jf 3 7 9 rfl rfl rfl Wj rfl rfl rfl (fun K bB=>?_) (fun K bB=>?_) (fun K bB=>?_)
 ·have z4:=hX.c4;go_simp;refine bB _ _ trivial ?_;clear bB K;try simp only[g_S]
  clear z4;refine ya ?_ 8 (v:=?_) rfl Wj Wj Wj trivial rfl ?_ ?_
  ·repeat(first|refine zR ?_|refine zH ?_|exact zQ _ _ _)
  rotate_left
  ·intro wS _;go_simp;(with_reducible rfl)
  try simp only[g_S]
  refine xP 7 9 rfl rfl Wj rfl rfl (fun K bB=>?_) (fun K bB=>?_)
  ·have B4:=bO (d+1) ni F B pb vb v lj bj wd Wq hR hP hFp (fun g hg=>⟨(hF g hg).1,Nat.lt_of_lt_of_le (hF g hg).2 bm.size⟩) hBp nK;rw[←B1,fA]at B4;go_simp;refine B4.mono ?_;rintro e wq Bu;clear B4
   first
   | have qq1:=qq1
     obtain⟨rfl,Bk⟩:=Bu
     exact⟨rfl,by rw[cI.out];exact⟨rfl,bm.trans Bk⟩⟩
   | obtain⟨hx,rfl,hV,Bs,me,Bk⟩:=Bu
     unfold vlV;(have h4:∀g,blk A=some g∨blk fQ=some g→g<wd.heap.size:=fun g hg=>hg.elim (fun e=>(hS.own.blk_lt e).2) (fun e=>(hS.kown.blk_lt e).2));have eF:xb+1≤wd.heap.size:=hX.lt;replace hS:=Bk.mns hS Wq Wq;replace hX:=Bk.box hX Wq Wq;clear hR hP;have hR:=Bs;have hP:=me;replace bm:=bm.trans Bk;clear Bs me Bk;(obtain⟨W4,rX⟩:∃g,g=wd.heap.size:=⟨_,rfl⟩);rw[←rX]at h4 eF hV;clear rX;refine bB _ _ trivial ?_;clear bB K;(try simp only[g_S]);refine zj 9 rfl Wj rfl (fun K bB=>?_);go_simp;have hM:=Box.new wq #[.int .u8 0,.int .u64 0,.string ⟨#[]⟩,.slice none 0 0,.slice none 0 0] 78;have cu:=(Below.refl wq.heap.size wq).alloc (Nat.le_refl _) (.cells #[.int .u8 0,.int .u64 0,.string ⟨#[]⟩,.slice none 0 0,.slice none 0 0] 78);refine bB _ _ trivial ?_;clear bB K;(try simp only[g_S]);(obtain⟨mb,cw⟩:∃g,g=wq.heap.size:=⟨_,rfl⟩);rw[←cw]at hM ⊢;replace hS:=hS.below cu;replace hX:=hX.below cu;replace hR:=hR.below cu;replace hP:=hP.below cu;(have se:a.heap.size≤mb:=by rw[cw];exact bm.size);replace bm:=bm.below hBa cu;have i0:=cu.size;clear cw;replace hV:=(hV.keep (fun g hg=>cu.block g hg.2) i0).mono (fun g hg=>(⟨hg.1,Nat.lt_of_lt_of_le hg.2 i0⟩:FN W4 _ g));generalize(wq.alloc (.cells #[.int .u8 0,.int .u64 0,.string ⟨#[]⟩,.slice none 0 0,.slice none 0 0] 78))=wm at*;have BB:=dY.out;subst BB;have Bp:Own _ (xb+1) 78 5 A xs.length c (rowC vlC xs):=hS.own;refine zj 10 rfl Wj rfl (fun K bB=>?_);refine jL (ops:=#[]) slVl underlying76 rfl rfl rfl Bp (vf (n:=1) (sz:=5) hM rfl WJ) WQ Wq Hj mQ ?_;intro A4 c4 w6 bR bz ey;(have iK:rowC vlC xs++(#[.int .u8 0,.int .u64 0,.string ⟨#[]⟩,.slice none 0 0,.slice none 0 0]).toList=rowC vlC (xs++ [(vl0,(⟨none,0,none,0⟩:VH))]):=by rw[ql];rfl);rw[iK]at bR;clear iK;(have BX:blk A4=blk A∨∀g,blk A4=some g→_≤g:=ey.imp id uJ);have bY:=hS.push h4 eF (RV.zero _ _) bR bz BX;have dg:=hS.fresh h4 eF hV bz BX;(have Bx:∀g',blk A=some g'→xb+1≤g'∧a.heap.size≤g':=fun g' Ho=>by have:=(hS.own.blk_lt Ho).1;omega);have bA:=hX.grown bz wj;have Be:=hP.grown bz wj;have bE:=hR.kept bz uz;have bv:=bm.grown hBa bz wQ;refine bB _ _ trivial ?_;clear bB K;obtain⟨g,cur,rfl,eG,BT,fX,dp⟩:=km vlShape bR;clear hS hX hP hR bm hV hM Bp bz ey BX bR Bx h4;(try simp only[g_S]);(have g5:(xs.length:Int)<(xs.length:Int)+1:=by omega);(have g6:xs.length<xs.length+1:=by omega);refine ya ?_ 11 (v:=?_) rfl Wj Wj Wj trivial rfl ?_ ?_
     ·repeat(first|refine zR ?_|refine zH ?_|exact zQ _ _ _)
     rotate_left
     ·intro wS _;go_simp;(with_reducible rfl)
     (try simp only[g_S]);refine ya ?_ 13 (v:=?_) rfl Wj Wj Wj trivial rfl ?_ ?_
     ·repeat(first|refine zR ?_|refine zH ?_|exact zQ _ _ _)
     rotate_left
     ·intro wS _;go_simp;(with_reducible rfl)
     (try simp only[g_S]);refine ya ?_ 14 (v:=?_) rfl Wj Wj Wj trivial rfl ?_ ?_
     ·repeat(first|refine zR ?_|refine zH ?_|exact zQ _ _ _)
     rotate_left
     ·intro wS _;go_simp;(with_reducible rfl)
     (try simp only[g_S]);(have sq:g≠xb:=by omega);refine xP 12 15 rfl rfl Wj rfl rfl (fun K bB=>?_) (fun K bB=>?_)
     ·have qqg9:=();exact Z3o_
     ·exact Z3o_
  go_simp;have hM:=Box.new wd #[.int .u8 0,.int .u64 0,.string ⟨#[]⟩,.slice none 0 0,.slice none 0 0] 78;have cu:=(Below.refl wd.heap.size wd).alloc (Nat.le_refl _) (.cells #[.int .u8 0,.int .u64 0,.string ⟨#[]⟩,.slice none 0 0,.slice none 0 0] 78);refine bB _ _ trivial ?_;clear bB K;try simp only[g_S]
  obtain⟨mb,cw⟩:∃g,g=wd.heap.size:=⟨_,rfl⟩
  rw[←cw]at hM ⊢;replace hS:=hS.below cu;replace hX:=hX.below cu;replace hR:=hR.below cu;replace hP:=hP.below cu;have se:a.heap.size≤mb:=by rw[cw];exact bm.size
  replace bm:=bm.below hBa cu;have i0:=cu.size;clear cw;generalize(wd.alloc (.cells #[.int .u8 0,.int .u64 0,.string ⟨#[]⟩,.slice none 0 0,.slice none 0 0] 78))=wm at*;refine zj 7 rfl Wj rfl (fun K bB=>?_);have B4:=bO (d+1) ni F B pb vb v lj bj wm Wq hR hP hFp (fun g hg=>⟨(hF g hg).1,Nat.lt_of_lt_of_le (hF g hg).2 bm.size⟩) hBp nK;rw[←B1,fA]at B4;go_simp;refine B4.mono ?_;rintro e wq Bu;clear B4
  first
  | have qq1:=qq1
    obtain⟨rfl,Bk⟩:=Bu
    exact⟨rfl,by rw[cI.out];exact⟨rfl,bm.trans Bk⟩⟩
  | obtain⟨hx,rfl,hV,Bs,me,Bk⟩:=Bu
    unfold vlV;(have h4:∀g,blk A=some g∨blk fQ=some g→g<wm.heap.size:=fun g hg=>hg.elim (fun e=>(hS.own.blk_lt e).2) (fun e=>(hS.kown.blk_lt e).2));have eF:xb+1≤wm.heap.size:=hX.lt;replace hS:=Bk.mns hS Wq Wq;replace hX:=Bk.box hX Wq Wq;replace hM:=Bk.box hM Wq Wq;clear hR hP;have hR:=Bs;have hP:=me;replace bm:=bm.trans Bk;clear Bs me Bk;(obtain⟨W4,rX⟩:∃g,g=wm.heap.size:=⟨_,rfl⟩);rw[←rX]at h4 eF hV;clear rX;refine bB _ _ trivial ?_;clear bB K;(try simp only[g_S]);have BB:=dY.out;subst BB;have Bp:Own _ (xb+1) 78 5 A xs.length c (rowC vlC xs):=hS.own;refine zj 10 rfl Wj rfl (fun K bB=>?_);refine jL (ops:=#[]) slVl underlying76 rfl rfl rfl Bp (vf (n:=1) (sz:=5) hM rfl WJ) WQ Wq Hj mQ ?_;intro A4 c4 w6 bR bz ey;(have iK:rowC vlC xs++(#[.int .u8 0,.int .u64 0,.string ⟨#[]⟩,.slice none 0 0,.slice none 0 0]).toList=rowC vlC (xs++ [(vl0,(⟨none,0,none,0⟩:VH))]):=by rw[ql];rfl);rw[iK]at bR;clear iK;(have BX:blk A4=blk A∨∀g,blk A4=some g→_≤g:=ey.imp id uJ);have bY:=hS.push h4 eF (RV.zero _ _) bR bz BX;have dg:=hS.fresh h4 eF hV bz BX;(have Bx:∀g',blk A=some g'→xb+1≤g'∧a.heap.size≤g':=fun g' Ho=>by have:=(hS.own.blk_lt Ho).1;omega);have bA:=hX.grown bz wj;have Be:=hP.grown bz wj;have bE:=hR.kept bz uz;have bv:=bm.grown hBa bz wQ;refine bB _ _ trivial ?_;clear bB K;obtain⟨g,cur,rfl,eG,BT,fX,dp⟩:=km vlShape bR;clear hS hX hP hR bm hV hM Bp bz ey BX bR Bx h4;(try simp only[g_S]);(have g5:(xs.length:Int)<(xs.length:Int)+1:=by omega);(have g6:xs.length<xs.length+1:=by omega);refine ya ?_ 11 (v:=?_) rfl Wj Wj Wj trivial rfl ?_ ?_
    ·repeat(first|refine zR ?_|refine zH ?_|exact zQ _ _ _)
    rotate_left
    ·intro wS _;go_simp;(with_reducible rfl)
    (try simp only[g_S]);refine ya ?_ 13 (v:=?_) rfl Wj Wj Wj trivial rfl ?_ ?_
    ·repeat(first|refine zR ?_|refine zH ?_|exact zQ _ _ _)
    rotate_left
    ·intro wS _;go_simp;(with_reducible rfl)
    (try simp only[g_S]);refine ya ?_ 14 (v:=?_) rfl Wj Wj Wj trivial rfl ?_ ?_
    ·repeat(first|refine zR ?_|refine zH ?_|exact zQ _ _ _)
    rotate_left
    ·intro wS _;go_simp;(with_reducible rfl)
    (try simp only[g_S]);(have sq:g≠xb:=by omega);refine xP 12 15 rfl rfl Wj rfl rfl (fun K bB=>?_) (fun K bB=>?_)
    ·have qqga:=();exact Z3o_
    ·exact Z3o_
 ·have B4:=bO (d+1) ni F B pb vb v lj bj wd Wq hR hP hFp (fun g hg=>⟨(hF g hg).1,Nat.lt_of_lt_of_le (hF g hg).2 bm.size⟩) hBp nK;rw[←B1,fA]at B4;go_simp;refine B4.mono ?_;rintro e wq Bu;clear B4
  first
  | have qq1:=qq1
    obtain⟨rfl,Bk⟩:=Bu
    exact⟨rfl,by rw[cI.out];exact⟨rfl,bm.trans Bk⟩⟩
  | obtain⟨hx,rfl,hV,Bs,me,Bk⟩:=Bu
    unfold vlV;(have h4:∀g,blk A=some g∨blk fQ=some g→g<wd.heap.size:=fun g hg=>hg.elim (fun e=>(hS.own.blk_lt e).2) (fun e=>(hS.kown.blk_lt e).2));have eF:xb+1≤wd.heap.size:=hX.lt;replace hS:=Bk.mns hS Wq Wq;replace hX:=Bk.box hX Wq Wq;clear hR hP;have hR:=Bs;have hP:=me;replace bm:=bm.trans Bk;clear Bs me Bk;(obtain⟨W4,rX⟩:∃g,g=wd.heap.size:=⟨_,rfl⟩);rw[←rX]at h4 eF hV;clear rX;refine bB _ _ trivial ?_;clear bB K;(try simp only[g_S]);refine xP 3 9 rfl rfl Wj rfl rfl (fun K bB=>?_) (fun K bB=>?_)
    ·exact Z3k_
    ·have qqew:=();exact Z3k_
 go_simp;have hM:=Box.new wd #[.int .u8 0,.int .u64 0,.string ⟨#[]⟩,.slice none 0 0,.slice none 0 0] 78;have cu:=(Below.refl wd.heap.size wd).alloc (Nat.le_refl _) (.cells #[.int .u8 0,.int .u64 0,.string ⟨#[]⟩,.slice none 0 0,.slice none 0 0] 78);refine bB _ _ trivial ?_;clear bB K;try simp only[g_S]
 obtain⟨mb,cw⟩:∃g,g=wd.heap.size:=⟨_,rfl⟩
 rw[←cw]at hM ⊢;replace hS:=hS.below cu;replace hX:=hX.below cu;replace hR:=hR.below cu;replace hP:=hP.below cu;have se:a.heap.size≤mb:=by rw[cw];exact bm.size
 replace bm:=bm.below hBa cu;have i0:=cu.size;clear cw;generalize(wd.alloc (.cells #[.int .u8 0,.int .u64 0,.string ⟨#[]⟩,.slice none 0 0,.slice none 0 0] 78))=wm at*;refine xP 3 7 rfl rfl Wj rfl rfl (fun K bB=>?_) (fun K bB=>?_)
 ·have z4:=hX.c4;go_simp;refine bB _ _ trivial ?_;clear bB K;try simp only[g_S]
  clear z4;refine ya ?_ 8 (v:=?_) rfl Wj Wj Wj trivial rfl ?_ ?_
  ·repeat(first|refine zR ?_|refine zH ?_|exact zQ _ _ _)
  rotate_left
  ·intro wS _;go_simp;(with_reducible rfl)
  try simp only[g_S]
  refine zj 7 rfl Wj rfl (fun K bB=>?_);have B4:=bO (d+1) ni F B pb vb v lj bj wm Wq hR hP hFp (fun g hg=>⟨(hF g hg).1,Nat.lt_of_lt_of_le (hF g hg).2 bm.size⟩) hBp nK;rw[←B1,fA]at B4;go_simp;refine B4.mono ?_;rintro e wq Bu;clear B4
  first
  | have qq1:=qq1
    obtain⟨rfl,Bk⟩:=Bu
    exact⟨rfl,by rw[cI.out];exact⟨rfl,bm.trans Bk⟩⟩
  | obtain⟨hx,rfl,hV,Bs,me,Bk⟩:=Bu
    unfold vlV;(have h4:∀g,blk A=some g∨blk fQ=some g→g<wm.heap.size:=fun g hg=>hg.elim (fun e=>(hS.own.blk_lt e).2) (fun e=>(hS.kown.blk_lt e).2));have eF:xb+1≤wm.heap.size:=hX.lt;replace hS:=Bk.mns hS Wq Wq;replace hX:=Bk.box hX Wq Wq;replace hM:=Bk.box hM Wq Wq;clear hR hP;have hR:=Bs;have hP:=me;replace bm:=bm.trans Bk;clear Bs me Bk;(obtain⟨W4,rX⟩:∃g,g=wm.heap.size:=⟨_,rfl⟩);rw[←rX]at h4 eF hV;clear rX;refine bB _ _ trivial ?_;clear bB K;(try simp only[g_S]);have BB:=dY.out;subst BB;have Bp:Own _ (xb+1) 78 5 A xs.length c (rowC vlC xs):=hS.own;refine zj 10 rfl Wj rfl (fun K bB=>?_);refine jL (ops:=#[]) slVl underlying76 rfl rfl rfl Bp (vf (n:=1) (sz:=5) hM rfl WJ) WQ Wq Hj mQ ?_;intro A4 c4 w6 bR bz ey;(have iK:rowC vlC xs++(#[.int .u8 0,.int .u64 0,.string ⟨#[]⟩,.slice none 0 0,.slice none 0 0]).toList=rowC vlC (xs++ [(vl0,(⟨none,0,none,0⟩:VH))]):=by rw[ql];rfl);rw[iK]at bR;clear iK;(have BX:blk A4=blk A∨∀g,blk A4=some g→_≤g:=ey.imp id uJ);have bY:=hS.push h4 eF (RV.zero _ _) bR bz BX;have dg:=hS.fresh h4 eF hV bz BX;(have Bx:∀g',blk A=some g'→xb+1≤g'∧a.heap.size≤g':=fun g' Ho=>by have:=(hS.own.blk_lt Ho).1;omega);have bA:=hX.grown bz wj;have Be:=hP.grown bz wj;have bE:=hR.kept bz uz;have bv:=bm.grown hBa bz wQ;refine bB _ _ trivial ?_;clear bB K;obtain⟨g,cur,rfl,eG,BT,fX,dp⟩:=km vlShape bR;clear hS hX hP hR bm hV hM Bp bz ey BX bR Bx h4;(try simp only[g_S]);(have g5:(xs.length:Int)<(xs.length:Int)+1:=by omega);(have g6:xs.length<xs.length+1:=by omega);refine ya ?_ 11 (v:=?_) rfl Wj Wj Wj trivial rfl ?_ ?_
    ·repeat(first|refine zR ?_|refine zH ?_|exact zQ _ _ _)
    rotate_left
    ·intro wS _;go_simp;(with_reducible rfl)
    (try simp only[g_S]);refine ya ?_ 13 (v:=?_) rfl Wj Wj Wj trivial rfl ?_ ?_
    ·repeat(first|refine zR ?_|refine zH ?_|exact zQ _ _ _)
    rotate_left
    ·intro wS _;go_simp;(with_reducible rfl)
    (try simp only[g_S]);refine ya ?_ 14 (v:=?_) rfl Wj Wj Wj trivial rfl ?_ ?_
    ·repeat(first|refine zR ?_|refine zH ?_|exact zQ _ _ _)
    rotate_left
    ·intro wS _;go_simp;(with_reducible rfl)
    (try simp only[g_S]);(have sq:g≠xb:=by omega);refine xP 12 15 rfl rfl Wj rfl rfl (fun K bB=>?_) (fun K bB=>?_)
    ·have qqgb:=();exact Z3o_
    ·exact Z3o_
 have B4:=bO (d+1) ni F B pb vb v lj bj wm Wq hR hP hFp (fun g hg=>⟨(hF g hg).1,Nat.lt_of_lt_of_le (hF g hg).2 bm.size⟩) hBp nK;rw[←B1,fA]at B4;go_simp;refine B4.mono ?_;rintro e wq Bu;clear B4
 first
 | have qq1:=qq1
   obtain⟨rfl,Bk⟩:=Bu
   exact⟨rfl,by rw[cI.out];exact⟨rfl,bm.trans Bk⟩⟩
 | obtain⟨hx,rfl,hV,Bs,me,Bk⟩:=Bu
   unfold vlV;(have h4:∀g,blk A=some g∨blk fQ=some g→g<wm.heap.size:=fun g hg=>hg.elim (fun e=>(hS.own.blk_lt e).2) (fun e=>(hS.kown.blk_lt e).2));have eF:xb+1≤wm.heap.size:=hX.lt;replace hS:=Bk.mns hS Wq Wq;replace hX:=Bk.box hX Wq Wq;replace hM:=Bk.box hM Wq Wq;clear hR hP;have hR:=Bs;have hP:=me;replace bm:=bm.trans Bk;clear Bs me Bk;(obtain⟨W4,rX⟩:∃g,g=wm.heap.size:=⟨_,rfl⟩);rw[←rX]at h4 eF hV;clear rX;refine bB _ _ trivial ?_;clear bB K;(try simp only[g_S]);refine zj 3 rfl Wj rfl (fun K bB=>?_);have z4:=hX.c4;go_simp;refine bB _ _ trivial ?_;clear bB K;(try simp only[g_S]);clear z4;refine ya ?_ 8 (v:=?_) rfl Wj Wj Wj trivial rfl ?_ ?_
   ·repeat(first|refine zR ?_|refine zH ?_|exact zQ _ _ _)
   rotate_left
   ·intro wS _;go_simp;(with_reducible rfl)
   (try simp only[g_S]);have BB:=dY.out;subst BB;have Bp:Own _ (xb+1) 78 5 A xs.length c (rowC vlC xs):=hS.own;refine zj 10 rfl Wj rfl (fun K bB=>?_);refine jL (ops:=#[]) slVl underlying76 rfl rfl rfl Bp (vf (n:=1) (sz:=5) hM rfl WJ) WQ Wq Hj mQ ?_;intro A4 c4 w6 bR bz ey;(have iK:rowC vlC xs++(#[.int .u8 0,.int .u64 0,.string ⟨#[]⟩,.slice none 0 0,.slice none 0 0]).toList=rowC vlC (xs++ [(vl0,(⟨none,0,none,0⟩:VH))]):=by rw[ql];rfl);rw[iK]at bR;clear iK;(have BX:blk A4=blk A∨∀g,blk A4=some g→_≤g:=ey.imp id uJ);have bY:=hS.push h4 eF (RV.zero _ _) bR bz BX;have dg:=hS.fresh h4 eF hV bz BX;(have Bx:∀g',blk A=some g'→xb+1≤g'∧a.heap.size≤g':=fun g' Ho=>by have:=(hS.own.blk_lt Ho).1;omega);have bA:=hX.grown bz wj;have Be:=hP.grown bz wj;have bE:=hR.kept bz uz;have bv:=bm.grown hBa bz wQ;refine bB _ _ trivial ?_;clear bB K;obtain⟨g,cur,rfl,eG,BT,fX,dp⟩:=km vlShape bR;clear hS hX hP hR bm hV hM Bp bz ey BX bR Bx h4;(try simp only[g_S]);(have g5:(xs.length:Int)<(xs.length:Int)+1:=by omega);(have g6:xs.length<xs.length+1:=by omega);refine ya ?_ 11 (v:=?_) rfl Wj Wj Wj trivial rfl ?_ ?_
   ·repeat(first|refine zR ?_|refine zH ?_|exact zQ _ _ _)
   rotate_left
   ·intro wS _;go_simp;(with_reducible rfl)
   (try simp only[g_S]);refine ya ?_ 13 (v:=?_) rfl Wj Wj Wj trivial rfl ?_ ?_
   ·repeat(first|refine zR ?_|refine zH ?_|exact zQ _ _ _)
   rotate_left
   ·intro wS _;go_simp;(with_reducible rfl)
   (try simp only[g_S]);refine ya ?_ 14 (v:=?_) rfl Wj Wj Wj trivial rfl ?_ ?_
   ·repeat(first|refine zR ?_|refine zH ?_|exact zQ _ _ _)
   rotate_left
   ·intro wS _;go_simp;(with_reducible rfl)
   (try simp only[g_S]);(have sq:g≠xb:=by omega);refine xP 12 15 rfl rfl Wj rfl rfl (fun K bB=>?_) (fun K bB=>?_)
   ·have qqgc:=();exact Z3o_
   ·exact Z3o_):p:=h
theorem Z61_(h:p:=by
 have:=iA.out;by_cases h:L.length<CN
 ·exact absurd ⟨h,by omega,f1⟩ this
 omega):p:=h
theorem Z3i_(h:p:=by
 first
 | have qqeo:=qqeo
   subst uV;(obtain rfl:kI=169:=by rw[←fk.out];rfl);obtain⟨vm,sB⟩:∃q,q=j5 (yz f) false (n-1) l1:=⟨_,rfl⟩
   have cl:Hid (∀q,rr=some q→b1=false∧∃q0,vm=some q0∧q=(.mk 169 0 [] q0.1 q0.2.1,q0.2.2)):=Lib.hid (fun q hq=>by
    obtain⟨bK,hv⟩:=HV.out q hq;rw[if_neg WJ,if_neg WJ,if_neg WJ,if_neg WJ,if_neg WJ,if_pos (.inr rfl)]at hv;obtain⟨q0,e1,e2⟩:=Option.map_eq_some_iff.1 hv
    exact⟨bK,q0,sB.trans e1,e2.symm⟩)
 | subst uy
   (obtain rfl:kI=168:=by rw[←fk.out];rfl);obtain⟨vm,sB⟩:∃q,q=j5 (yz f) true (n-1) l1:=⟨_,rfl⟩
   have cl:Hid (∀q,rr=some q→b1=false∧∃q0,vm=some q0∧q=(.mk 168 0 [] q0.1 q0.2.1,q0.2.2)):=Lib.hid (fun q hq=>by
    obtain⟨bK,hv⟩:=HV.out q hq;rw[if_neg WJ,if_neg WJ,if_neg WJ,if_neg WJ,if_neg WJ,if_pos (.inl rfl)]at hv;obtain⟨q0,e1,e2⟩:=Option.map_eq_some_iff.1 hv
    exact⟨bK,q0,sB.trans e1,e2.symm⟩)
 have Lt:=Lib.hid sB;clear HV sB;have h2:=yG hR 4 Wq Wq;obtain⟨T,hT⟩:∃t,t=mnum l1 b1 4:=⟨_,rfl⟩
 rw[←hT]at h2;obtain⟨SZ,l2,b2⟩:=T;simp only at h2;have HT:=Lib.hid hT;clear hT;go_wp2_with(with_reducible refine h_B ?_);refine h2.mono ?_;rintro e w6 ⟨rfl,Bs,Hm⟩;have Hk:=hX.grown Hm (sne Wq);have dz:=eH.grown Hm (sne Wq);have cP:=bm.grown bL Hm uX;clear h2 hX hR eH bm Hm;try simp only at Bs
 have h3:=yG Bs 4 Wq Wq;have hlt:=xg l2 b2 4;obtain⟨T,hT⟩:∃t,t=mnum l2 b2 4:=⟨_,rfl⟩
 rw[←hT]at h3 hlt;obtain⟨CN,l3,b3⟩:=T;simp only at h3 hlt;have Lp:=Lib.hid hT;clear hT;go_wp2_with(with_reducible refine h_B ?_);refine h3.mono ?_;rintro e w7 ⟨rfl,fw,H6⟩;have bS:=Hk.grown H6 (sne Wq);have eI:=dz.grown H6 (sne Wq);have cz:=cP.grown bL H6 uX;clear h3 Hk Bs dz cP H6;try simp only at fw
 first
 | have qqeo:=qqeo
   have IY:Hid (∀q0,b1=false→vm=some q0→b3=false∧CN<200∧xm (yz f) false CN (n-1) l3=some q0):=Lib.hid (fun q0 bK hq=>by
    subst bK;have e:=Lt.out;unfold j5 at e;rw[←HT.out,hq]at e;simp only at e;rw[←Lp.out]at e;simp only at e;split at e
    ·cases e
    ·rename_i BO
     split at e
     ·cases e
     ·rename_i q1 eN
      split at e
      ·(injection e with e);subst e;refine⟨?_,by omega,eN⟩
       cases b3
       ·rfl
       ·exact absurd (.inl rfl) BO
      ·cases e)
 | have IY:Hid (∀q0,b1=false→vm=some q0→b3=false∧CN<200∧xm (yz f) true CN (n-1) l3=some q0):=Lib.hid (fun q0 bK hq=>by
    subst bK;have e:=Lt.out;unfold j5 at e;rw[←HT.out,hq]at e;simp only at e;rw[←Lp.out]at e;simp only at e;split at e
    ·cases e
    ·rename_i BO
     split at e
     ·cases e
     ·rename_i q1 eN
      split at e
      ·(injection e with e);subst e;refine⟨?_,by omega,eN⟩
       cases b3
       ·rfl
       ·exact absurd (.inl rfl) BO
      ·cases e)
 clear Lt HT Lp;have dN:MnS w7 (xb+1) [] none 0 none 0 []:=MnS.nil _ _;go_wp2_with(with_reducible refine h_A ?_)
 first
 | have qqeo:=qqeo
   go_loopw [2,11] (fun s2 us wr=>∃(i ni:Nat) (KS:List (List UInt8)) (AK:Option Addr) (cK:Nat) (A:Option Addr) (c:Nat) (xs:List (Vl×VH)) (li:List UInt8) (bi:Bool),i≤200∧us= .int .u64 (i:Int)∧s2= .int .i64 (ni:Int)∧ni<n∧Hid (xs.length=i)∧KS.length≤i∧Hid (∀k∈KS,k.length≤255)∧MnS wr (xb+1) KS AK cK A c xs∧
     Box wr xb 78 #[.int .u8 169,.int .u64 0,.string ⟨#[]⟩,.slice AK KS.length cK,.slice A i c]∧Qrd F wr b li bi∧KP B b b w wr∧Box wr rb 78 #[.int .u8 0,.int .u64 0,.string ⟨#[]⟩,.slice none 0 0,.slice none 0 0]∧Hid (∀q0,b1=false→vm=some q0→bi=false∧CN<200∧i≤CN∧∃p,xm (yz f) false (CN-i) ni li=some p∧q0=(KS++p.1,xs.map (·.1)++p.2.1,p.2.2))) (fun _ us _=>200-(RowKit.intOf us).toNat)
 | go_loopw [2,11] (fun s2 us wr=>∃(i ni:Nat) (KS:List (List UInt8)) (AK:Option Addr) (cK:Nat) (A:Option Addr) (c:Nat) (xs:List (Vl×VH)) (li:List UInt8) (bi:Bool),i≤200∧us= .int .u64 (i:Int)∧s2= .int .i64 (ni:Int)∧ni<n∧Hid (xs.length=i)∧KS.length≤i∧Hid (∀k∈KS,k.length≤255)∧MnS wr (xb+1) KS AK cK A c xs∧
     Box wr xb 78 #[.int .u8 168,.int .u64 0,.string ⟨#[]⟩,.slice AK KS.length cK,.slice A i c]∧Qrd F wr b li bi∧KP B b b w wr∧Box wr rb 78 #[.int .u8 0,.int .u64 0,.string ⟨#[]⟩,.slice none 0 0,.slice none 0 0]∧Hid (∀q0,b1=false→vm=some q0→bi=false∧CN<200∧i≤CN∧∃p,xm (yz f) true (CN-i) ni li=some p∧q0=(KS++p.1,xs.map (·.1)++p.2.1,p.2.2))) (fun _ us _=>200-(RowKit.intOf us).toNat)
 case atStart=>exact⟨0,n-1,[],none,0,none,0,[],l3,b3,by omega,rfl,by first|rfl|rw[eJ],by omega,Lib.hid rfl,by simp,Lib.hid zAc,dN,bS,fw,cz,eI,Lib.hid (fun q0 h1 h2=>by
  obtain⟨e1,e2,e3⟩:=IY.out q0 h1 h2
  exact⟨e1,e2,by omega,q0,by rw[Nat.sub_zero];exact e3,by simp⟩)⟩
 clear dN bS fw cz eI IY eJ;obtain⟨i,ni,KS,AK,cK,A,c,xs,li,bi,hi,rfl,rfl,nK,dY,bI,dd,hS,hX,hR,bm,cG,HC⟩:=hrel;obtain⟨L,hL⟩:∃L,L=xs.map (·.1):=⟨_,rfl⟩
 obtain rfl:i=L.length:=by rw[hL,List.length_map,dY.out]
 have HL:=Lib.hid hL;clear hL
 have Bm:∃A' c',wr.cell? ⟨b,0,none⟩=some (.slice A' li.length c')∧wr.cell? ⟨b,1,none⟩=some (.bool bi):=by
  obtain⟨A',n',c',e0,e1,_,_,i5,_⟩:=hR;exact⟨A',c',by rw[RdB.length i5];exact e0,e1⟩
 obtain⟨_,_,_,Bm⟩:=Bm;by_cases fH:L.length<CN∧L.length<200∧bi=false
 ·obtain⟨g1,g2,rfl⟩:=fH;have g3:(L.length:Int)<(CN:Int):=by omega
  have g4:(L.length:Int)<200:=by omega
  have x0:=hX.c0
  first
  | have qqeo:=qqeo
    (obtain⟨w7,rfl⟩:∃q,q=wr:=⟨_,rfl⟩);(obtain⟨co,rfl⟩:∃q,q=KS:=⟨_,rfl⟩);(obtain⟨A4,rfl⟩:∃q,q=AK:=⟨_,rfl⟩);(obtain⟨c4,rfl⟩:∃q,q=cK:=⟨_,rfl⟩);obtain⟨lj,rfl⟩:∃q,q=li:=⟨_,rfl⟩
    have Bk:=dd
  | have h2:=jc hR 1 255 Wq Wq Wq Wq
    have pj:=yY li false 1 255;rw[show((255:Nat):Int)=255 from rfl]at pj;(obtain⟨T,hT⟩:∃t,t=zT li false 1 255:=⟨_,rfl⟩);rw[←hT]at h2 pj;obtain⟨ks,lj,bj⟩:=T;simp only at h2 pj;have Tp:=Lib.hid hT;clear hT;go_wp2_with(with_reducible refine h_A ?_);refine h2.mono ?_;rintro e w5 ⟨rfl,eo,H9⟩;have B3:=hX.grown H9 (sne Wq);have L7:=cG.grown H9 (sne Wq);have I7:=bm.grown bL H9 uX;have BN:=hS.box H9 Wq;clear h2 hX hR cG bm H9 hS x0;(try simp only at eo);(have fJ:Own w5 (xb+1) 9 1 AK KS.length cK (rowC txC KS):=by rw[zap];exact BN.kown);have x3:=B3.c3;have aY:=B3.lt;go_wp2_with(with_reducible refine h_A ?_);refine zc (jS (W:=w5) zcP slTx underlying22 rfl rfl rfl rfl rfl ks rfl fJ Wq Wq Wq ?_);intro A4 c4 w6 bR bz ey _;rw[zap]at bR;have bY:=BN.pushK bR bz ey;(have Bx:∀g',blk AK=some g'→xb+1≤g'∧w.heap.size≤g':=fun g' Ho=>by have:=(BN.kown.blk_lt Ho).1;omega);have bA:=B3.grown bz wj;have IL:=L7.grown bz wj;have bE:=eo.kept bz uz;have bv:=I7.grown bL bz wQ;clear x3 B3 eo L7 I7 BN fJ bR bz ey Bx;go_wp2_with(with_reducible refine h_B ?_);refine zc (zn (v:=.slice A4 (KS.length+1) c4) (vs:=[.slice A4 (KS.length+1) c4]) rfl rfl rfl rfl bA rfl Wj Wz wX #[.int .u8 168,.int .u64 0,.string ⟨#[]⟩,.slice A4 (KS.length+1) c4,.slice A L.length c] Wz ?_);intro w7 Bt H7 _;have hS:=bY.box H7 Wq;have cG:=IL.grown H7 (sne Wq);have hR:=bE.kept H7 wJ;have bm:=bv.grown bL H7 (fun g' Ho=>by injection Ho with Ho;exact⟨by omega,.inr (.inr Wq)⟩);clear bY IL bE bv bA H7;(obtain⟨co,eT⟩:∃K,K=KS++ [ks]:=⟨_,rfl⟩);have io:co.length=KS.length+1:=by rw[eT];simp
    have Bk:Hid (∀k∈co,k.length≤255):=Lib.hid (fun k hk=>by
     rw[eT]at hk;rcases List.mem_append.1 hk with h|h
     ·exact dd.out k h
     ·rw[List.mem_singleton.1 h];exact pj)
    rw[←eT]at hS
  have mM:co.length≤L.length+1:=by omega
  first
  | have qqeo:=qqeo
    have cL:Hid (∀q0,b1=false→vm=some q0→∃r,yz f ni lj=some r∧false=false∧CN<200∧∃p,xm (yz f) false (CN-(L.length+1)) r.2.2 r.2.1=some p∧q0=(co++p.1,xs.map (·.1)++([r.1]++p.2.1),p.2.2)):=Lib.hid (fun q0 bK hq=>by
     obtain⟨_,e2,e3,p,e4,e5⟩:=HC.out q0 bK hq;rw[show CN-L.length=(CN-(L.length+1))+1 by omega]at e4;obtain⟨s1,r,s2,p2,s3,s4⟩:=Yx e4;refine⟨r,s2,rfl,e2,p2,s3,?_⟩;rw[e5,s4]
     simp)
    clear HC dd bI
  | have hX:Box w7 xb 78 #[.int .u8 168,.int .u64 0,.string ⟨#[]⟩,.slice A4 co.length c4,.slice A L.length c]:=by rw[io];exact Bt
    simp only[←io]
    have cL:Hid (∀q0,b1=false→vm=some q0→∃r,yz f ni lj=some r∧bj=false∧CN<200∧∃p,xm (yz f) true (CN-(L.length+1)) r.2.2 r.2.1=some p∧q0=(co++p.1,xs.map (·.1)++([r.1]++p.2.1),p.2.2)):=Lib.hid (fun q0 bK hq=>by
     obtain⟨_,e2,e3,p,e4,e5⟩:=HC.out q0 bK hq;rw[show CN-L.length=(CN-(L.length+1))+1 by omega]at e4;obtain⟨s1,r,s2,p2,s3,s4⟩:=Yx e4;rw[←Tp.out]at s1 s2 s4;refine⟨r,s2,s1 rfl,e2,p2,s3,?_⟩;rw[e5,s4,eT]
     simp)
    clear HC Bt Tp dd bI io pj eT
  have FW:ni≤200:=by omega
  first
  | have qqeo:=qqeo
    obtain⟨Mo,ro⟩:∃q,q=qY f ni lj false:=⟨_,rfl⟩
    have B4:=bO (d+1) ni F B b lj false _ Wq hR (fun g hg=>⟨(hF g hg).1,Nat.lt_of_lt_of_le (hF g hg).2 bm.size⟩) FW
  | obtain⟨Mo,ro⟩:∃q,q=qY f ni lj bj:=⟨_,rfl⟩
    have B4:=bO (d+1) ni F B b lj bj _ Wq hR (fun g hg=>⟨(hF g hg).1,Nat.lt_of_lt_of_le (hF g hg).2 bm.size⟩) FW
  have fA:((d+1:Nat):Int)=(d:Int)+1:=by omega
  rw[←ro,fA]at B4;have rp:=Lib.hid ro;have FP:=hX.lt;have rC:=bm.size;clear ro fA;go_wp2_with(with_reducible refine h_A ?_);refine B4.mono ?_;rintro e w8 ⟨x,h,m,ok,l9,b9,rfl,hV,BS,gz,gF,dZ,np,Mm⟩;have Ao:=Lib.hid Mm;have cq:=gz.box hX Wq Wq;have dm:=gz.box cG Wq Wq;have cE:=gz.mns hS Wq Wq;have bT:=bm.trans gz;have h4:∀g,blk A=some g∨blk A4=some g→g<w7.heap.size:=fun g hg=>hg.elim (fun e=>(hS.own.blk_lt e).2) (fun e=>(hS.kown.blk_lt e).2)
  have GC:=gz.size;clear B4 Mm hX cG hS hR bm gz;try clear x0
  unfold vlV;obtain⟨vb,w9,ig,CK,oW,Bl⟩:=zg w8 #[.int .u8 (x.kind:Int),.int .u64 (x.n:Int),.string (str x.s),.slice h.A1 x.keys.length h.c1,.slice h.A2 x.list.length h.c2] 78;go_upto_region 27 with fail;rw[←ig,←CK];have i7:=cq.below Bl;have pA:=dm.below Bl;have iD:=cE.below Bl;have pI:=bT.below bL Bl;have lV:=BS.below Bl;have GD:=Bl.size;have G3:RV w9 (FN w7.heap.size w9) x h:=(hV.keep (fun g hg=>Bl.block g hg.2) GD).mono (fun g hg=>⟨hg.1,Nat.lt_of_lt_of_le hg.2 GD⟩);clear ig CK cq dm cE bT BS hV Bl
  cases ok
  ·have cJ:Hid (∀q,rr=some q→False):=Lib.hid (fun q hq=>by
    obtain⟨bK,q0,e1,e2⟩:=cl.out q hq;obtain⟨r,f1,f2,_⟩:=cL.out q0 bK e1;(have e3:Mo=some r:=by rw[rp.out];first|exact f1|(rw[f2];exact f1));have:=(Ao.out r e3).2.2.2.1
    cases this)
   clear Ao cL cl np;(first|(have qqeo:=qqeo;have cg:=iD.rv (k:=169) (B:=w.heap.size) Wq Wq nj Wq NZ)|(have cg:=iD.rv (k:=168) (B:=w.heap.size) Wq Wq nj Wq NZ));rw[←HL.out]at cg;have z0:=i7.c0;have z1:=i7.c1;have z2:=i7.c2;have z3:=i7.c3;have z4:=i7.c4;go_wp2_with(with_reducible refine h_B ?_)
   first
   | have qqeo:=qqeo
     refine zc (zn (v:=.agg #[.int .u8 169,.int .u64 0,.string ⟨#[]⟩,.slice A4 co.length c4,.slice A L.length c]) (vs:=[.int .u8 169,.int .u64 0,.string ⟨#[]⟩,.slice A4 co.length c4,.slice A L.length c]) rfl rfl rfl rfl pA rfl Wj Wz WQ #[.int .u8 169,.int .u64 0,.string ⟨#[]⟩,.slice A4 co.length c4,.slice A L.length c] Wz ?_)
   | refine zc (zn (v:=.agg #[.int .u8 168,.int .u64 0,.string ⟨#[]⟩,.slice A4 co.length c4,.slice A L.length c]) (vs:=[.int .u8 168,.int .u64 0,.string ⟨#[]⟩,.slice A4 co.length c4,.slice A L.length c]) rfl rfl rfl rfl pA rfl Wj Wz WQ #[.int .u8 168,.int .u64 0,.string ⟨#[]⟩,.slice A4 co.length c4,.slice A L.length c] Wz ?_)
   intro wa F4 cU _;have sW:=lV.kept cU wZ;have lI:=pI.grown bL cU (fun g hg=>by injection hg with hg;exact⟨by omega,.inr (.inr Wq)⟩);have Oz:=iD.box cU Wq;(first|(have qqeo:=qqeo;have ui:=Oz.rv (k:=169) (B:=w.heap.size) Wq Wq nj Wq NZ)|(have ui:=Oz.rv (k:=168) (B:=w.heap.size) Wq Wq nj Wq NZ));rw[←HL.out]at ui;go_wp2_with(with_reducible refine h_A ?_);refine zv rfl F4 rfl rfl rfl underlying78 rfl Wj rfl ?_;first|(have qqeo:=qqeo;exact⟨.mk 169 0 [] co L,⟨A4,c4,A,c⟩,m,false,l9,b9,rfl,ui,sW,lI,gF,by omega,Mz,fun q hq=>absurd hq (fun hq=>(cJ.out q hq))⟩)|(exact⟨.mk 168 0 [] co L,⟨A4,c4,A,c⟩,m,false,l9,b9,rfl,ui,sW,lI,gF,by omega,Mz,fun q hq=>absurd hq (fun hq=>(cJ.out q hq))⟩)
  obtain⟨mn,rfl⟩:∃k:Nat,m=(k:Int):=⟨m.toNat,by have:=np rfl;omega⟩
  first
  | have qqeo:=qqeo
    have ry:Hid (∀q0,b1=false→vm=some q0→b9=false∧CN<200∧L.length+1≤CN∧∃p,xm (yz f) false (CN-(L.length+1)) mn l9=some p∧q0=(co++p.1,(xs++ [(x,h)]).map (·.1)++p.2.1,p.2.2)):=Lib.hid (fun q0 bK hq=>by
     obtain⟨r,f1,f2,f3,p,f4,f5⟩:=cL.out q0 bK hq;(have e3:Mo=some r:=by rw[rp.out];first|exact f1|(rw[f2];exact f1));obtain⟨s1,s2,s3,_,s5⟩:=Ao.out r e3;(obtain rfl:mn=r.2.2:=by omega);refine⟨s5,f3,by omega,p,by rw[s2];exact f4,?_⟩;rw[f5,s1]
     simp)
  | have ry:Hid (∀q0,b1=false→vm=some q0→b9=false∧CN<200∧L.length+1≤CN∧∃p,xm (yz f) true (CN-(L.length+1)) mn l9=some p∧q0=(co++p.1,(xs++ [(x,h)]).map (·.1)++p.2.1,p.2.2)):=Lib.hid (fun q0 bK hq=>by
     obtain⟨r,f1,f2,f3,p,f4,f5⟩:=cL.out q0 bK hq;(have e3:Mo=some r:=by rw[rp.out];first|exact f1|(rw[f2];exact f1));obtain⟨s1,s2,s3,_,s5⟩:=Ao.out r e3;(obtain rfl:mn=r.2.2:=by omega);refine⟨s5,f3,by omega,p,by rw[s2];exact f4,?_⟩;rw[f5,s1]
     simp)
  clear Ao cL np rp;have y0:=oW.c0;have y1:=oW.c1;have y2:=oW.c2;have y3:=oW.c3;have y4:=oW.c4;have x4:=i7.c4;have Bp:Own w9 (xb+1) 78 5 A L.length c (rowC vlC xs):=dY.out▸iD.own;go_wp2_with(with_reducible refine h_A ?_);refine zc (jS (W:=w9) vlShape slVl underlying76 rfl rfl rfl rfl rfl (x,h) rfl Bp Wq Wq Wq ?_);intro A9 c9 wA dt fg rQ _;have nI:=iD.push h4 FP G3 (by rw[dY.out];exact dt) fg rQ;have Bx:∀g',blk A=some g'→xb+1≤g'∧w.heap.size≤g':=fun g' Ho=>by have:=(iD.own.blk_lt Ho).1;omega
  have SK:=i7.grown fg wj;have EM:=pA.grown fg wj;have mP:=lV.kept fg uz;have D4:=pI.grown bL fg wQ;clear y0 y1 y2 y3 y4 x4 i7 lV pA pI iD Bp dt fg rQ Bx oW G3;go_wp2_with(with_reducible refine h_B ?_)
  first
  | have qqeo:=qqeo
    refine zc (zn (v:=.slice A9 (L.length+1) c9) (vs:=[.slice A9 (L.length+1) c9]) rfl rfl rfl rfl SK rfl Wj Wz wX #[.int .u8 169,.int .u64 0,.string ⟨#[]⟩,.slice A4 co.length c4,.slice A9 (L.length+1) c9] Wz ?_)
  | refine zc (zn (v:=.slice A9 (L.length+1) c9) (vs:=[.slice A9 (L.length+1) c9]) rfl rfl rfl rfl SK rfl Wj Wz wX #[.int .u8 168,.int .u64 0,.string ⟨#[]⟩,.slice A4 co.length c4,.slice A9 (L.length+1) c9] Wz ?_)
  intro wC Sw gA _;have uk:=nI.box gA Wq;have Ef:=EM.grown gA (sne Wq);have Ew:=mP.kept gA wJ;have Fw:=D4.grown bL gA (fun g' Ho=>by injection Ho with Ho;exact⟨by omega,.inr (.inr Wq)⟩);go_wp2_with(with_reducible refine h_A ?_);exact⟨⟨L.length+1,mn,co,A4,c4,A9,c9,xs++ [(x,h)],l9,b9,by omega,by go_num,rfl,by omega,Lib.hid (by rw[List.length_append,dY.out];rfl),mM,Bk,uk,Sw,Ew,Fw,Ef,ry⟩,by simp[RowKit.intOf];omega⟩
 have iA:=Lib.hid fH;clear fH;first|(have qqeo:=qqeo;have cg:=hS.rv (k:=169) (B:=xb+1) Wq Wq (fun x hx=>by have:=dd.out x hx;omega) Wq NZ)|(have cg:=hS.rv (k:=168) (B:=xb+1) Wq Wq (fun x hx=>by have:=dd.out x hx;omega) Wq NZ)
 rw[←HL.out]at cg
 first
 | have qqeo:=qqeo
   have nv:Hid (∀q,rr=some q→(.mk 169 0 [] KS L:Vl)=q.1∧li=q.2.1∧ni=q.2.2∧bi=false):=Lib.hid (fun q hq=>by
    obtain⟨bK,q0,e1,e2⟩:=cl.out q hq;obtain⟨f1,f2,f3,p,f4,f5⟩:=HC.out q0 bK e1
    have bC:CN-L.length=0:=by
     exact Z61_
    rw[bC,xm]at f4;(injection f4 with f4);subst f4;simp only[List.append_nil]at f5;rw[e2,f5,HL.out]
    exact⟨rfl,rfl,rfl,f1⟩)
 | have nv:Hid (∀q,rr=some q→(.mk 168 0 [] KS L:Vl)=q.1∧li=q.2.1∧ni=q.2.2∧bi=false):=Lib.hid (fun q hq=>by
    obtain⟨bK,q0,e1,e2⟩:=cl.out q hq;obtain⟨f1,f2,f3,p,f4,f5⟩:=HC.out q0 bK e1
    have bC:CN-L.length=0:=by
     exact Z61_
    rw[bC,xm]at f4;(injection f4 with f4);subst f4;simp only[List.append_nil]at f5;rw[e2,f5,HL.out]
    exact⟨rfl,rfl,rfl,f1⟩)
 clear HC cl;by_cases g1:L.length<CN
 ·have g3:(L.length:Int)<(CN:Int):=by omega
  by_cases g2:L.length<200
  ·have g4:(L.length:Int)<200:=by omega
   cases bi
   ·exact absurd ⟨g1,g2,rfl⟩ iA.out
   go_wp2_with(with_reducible refine h_A ?_);go_meet;first|(have qqeo:=qqeo;exact⟨.mk 169 0 [] KS L,⟨AK,cK,A,c⟩,ni,li,_,rfl,hX,cg,hR,bm,cG,nK,nv⟩)|(exact⟨.mk 168 0 [] KS L,⟨AK,cK,A,c⟩,ni,li,_,rfl,hX,cg,hR,bm,cG,nK,nv⟩)
  have g4:¬(L.length:Int)<200:=by omega
  go_wp2_with(with_reducible refine h_A ?_);go_meet;first|(have qqeo:=qqeo;exact⟨.mk 169 0 [] KS L,⟨AK,cK,A,c⟩,ni,li,_,rfl,hX,cg,hR,bm,cG,nK,nv⟩)|(exact⟨.mk 168 0 [] KS L,⟨AK,cK,A,c⟩,ni,li,_,rfl,hX,cg,hR,bm,cG,nK,nv⟩)
 have g3:¬(L.length:Int)<(CN:Int):=by omega
 go_wp2_with(with_reducible refine h_A ?_);go_meet
 first|(have qqeo:=qqeo;exact⟨.mk 169 0 [] KS L,⟨AK,cK,A,c⟩,ni,li,_,rfl,hX,cg,hR,bm,cG,nK,nv⟩)|(exact⟨.mk 168 0 [] KS L,⟨AK,cK,A,c⟩,ni,li,_,rfl,hX,cg,hR,bm,cG,nK,nv⟩)):p:=h
theorem Z3p_(h:p:=by
 first
 | have qqgj:=qqgj
   subst L3;obtain rfl:kI=49:=by rw[←fk.out];rfl
   have cl:Hid (∀q,rr=some q→(mnum l1 b1 8).2.2=false∧q=(.mk 49 (mnum l1 b1 8).1 [] [] [],(mnum l1 b1 8).2.1,n-1)):=Lib.hid (fun q hq=>by
    obtain⟨bK,hv⟩:=HV.out q hq;subst bK;rw[if_neg WJ,if_neg WJ,if_pos (.inr rfl)]at hv;split at hv
    ·cases hv
    ·rename_i BO
     injection hv with hv
     exact⟨by simpa using BO,hv.symm⟩)
 | have qqgi:=qqgi
   subst M9;obtain rfl:kI=50:=by rw[←fk.out];rfl
   have cl:Hid (∀q,rr=some q→(mnum l1 b1 8).2.2=false∧q=(.mk 50 (mnum l1 b1 8).1 [] [] [],(mnum l1 b1 8).2.1,n-1)):=Lib.hid (fun q hq=>by
    obtain⟨bK,hv⟩:=HV.out q hq;subst bK;rw[if_neg WJ,if_neg WJ,if_pos (.inl rfl)]at hv;split at hv
    ·cases hv
    ·rename_i BO
     injection hv with hv
     exact⟨by simpa using BO,hv.symm⟩)
 | have qqgh:=qqgh
   subst k2;obtain rfl:kI=2:=by rw[←fk.out];rfl
   have cl:Hid (∀q,rr=some q→(mnum l1 b1 1).2.2=false∧q=(.mk 2 (mnum l1 b1 1).1 [] [] [],(mnum l1 b1 1).2.1,n-1)):=Lib.hid (fun q hq=>by
    obtain⟨bK,hv⟩:=HV.out q hq;subst bK;rw[if_neg WJ,if_pos (.inr rfl)]at hv;split at hv
    ·cases hv
    ·rename_i BO
     injection hv with hv
     exact⟨by simpa using BO,hv.symm⟩)
 | have qqgg:=qqgg
   subst k8;obtain rfl:kI=8:=by rw[←fk.out];rfl
   have cl:Hid (∀q,rr=some q→(mnum l1 b1 1).2.2=false∧q=(.mk 8 (mnum l1 b1 1).1 [] [] [],(mnum l1 b1 1).2.1,n-1)):=Lib.hid (fun q hq=>by
    obtain⟨bK,hv⟩:=HV.out q hq;subst bK;rw[if_neg WJ,if_pos (.inl rfl)]at hv;split at hv
    ·cases hv
    ·rename_i BO
     injection hv with hv
     exact⟨by simpa using BO,hv.symm⟩)
 | have qqgf:=qqgf
   subst ru;obtain rfl:kI=149:=by rw[←fk.out];rfl
   have cl:Hid (∀q,rr=some q→(zT l1 b1 2 4096).2.2=false∧q=(.mk 149 0 (zT l1 b1 2 4096).1 [] [],(zT l1 b1 2 4096).2.1,n-1)):=Lib.hid (fun q hq=>by
    obtain⟨bK,hv⟩:=HV.out q hq;subst bK;rw[if_neg WJ,if_neg WJ,if_neg WJ,if_pos rfl]at hv;split at hv
    ·cases hv
    ·rename_i BO
     injection hv with hv
     exact⟨by simpa using BO,hv.symm⟩)
 | subst rg
   obtain rfl:kI=160:=by rw[←fk.out];rfl
   have cl:Hid (∀q,rr=some q→(zT l1 b1 4 4096).2.2=false∧q=(.mk 160 0 (zT l1 b1 4 4096).1 [] [],(zT l1 b1 4 4096).2.1,n-1)):=Lib.hid (fun q hq=>by
    obtain⟨bK,hv⟩:=HV.out q hq;subst bK;rw[if_neg WJ,if_neg WJ,if_neg WJ,if_neg WJ,if_pos rfl]at hv;split at hv
    ·cases hv
    ·rename_i BO
     injection hv with hv
     exact⟨by simpa using BO,hv.symm⟩)
 clear HV
 first
 | have qqgj:=qqgj
   have h2:=yG hR 8 Wq Wq;have hlt:=xg l1 b1 8
   obtain⟨T,hT⟩:∃t,t=mnum l1 b1 8:=⟨_,rfl⟩
 | have qqgi:=qqgi
   have h2:=yG hR 8 Wq Wq;have hlt:=xg l1 b1 8
   obtain⟨T,hT⟩:∃t,t=mnum l1 b1 8:=⟨_,rfl⟩
 | have qqgh:=qqgh
   have h2:=yG hR 1 Wq Wq;have hlt:=xg l1 b1 1
   obtain⟨T,hT⟩:∃t,t=mnum l1 b1 1:=⟨_,rfl⟩
 | have qqgg:=qqgg
   have h2:=yG hR 1 Wq Wq;have hlt:=xg l1 b1 1
   obtain⟨T,hT⟩:∃t,t=mnum l1 b1 1:=⟨_,rfl⟩
 | have qqgf:=qqgf
   have h2:=jc hR 2 4096 Wq Wq Wq Wq;have hlt:=yY l1 b1 2 4096;rw[show((4096:Nat):Int)=4096 from rfl]at hlt
   obtain⟨T,hT⟩:∃t,t=zT l1 b1 2 4096:=⟨_,rfl⟩
 | have h2:=jc hR 4 4096 Wq Wq Wq Wq
   have hlt:=yY l1 b1 4 4096;rw[show((4096:Nat):Int)=4096 from rfl]at hlt;obtain⟨T,hT⟩:∃t,t=zT l1 b1 4 4096:=⟨_,rfl⟩
 rw[←hT]at h2 hlt cl;obtain⟨x,l2,b2⟩:=T;simp only at h2 hlt;clear hT;go_wp2_with(with_reducible refine h_B ?_);refine h2.mono ?_;rintro e w6 ⟨rfl,Bs,Hm⟩;have Hk:=hX.grown Hm (sne Wq);have dz:=eH.grown Hm (sne Wq);have cP:=bm.grown bL Hm uX;clear h2 hX hR eH bm Hm;try simp only at Bs
 go_wp2_with(with_reducible refine h_B ?_)
 first
 | have qqgj:=qqgj
   refine zc (zn (v:=.int .u64 (x:Int)) (vs:=[.int .u64 (x:Int)]) rfl rfl rfl rfl Hk rfl Wj Wz wX #[.int .u8 49,.int .u64 (x:Int),.string ⟨#[]⟩,.slice none 0 0,.slice none 0 0] Wz ?_)
 | have qqgi:=qqgi
   refine zc (zn (v:=.int .u64 (x:Int)) (vs:=[.int .u64 (x:Int)]) rfl rfl rfl rfl Hk rfl Wj Wz wX #[.int .u8 50,.int .u64 (x:Int),.string ⟨#[]⟩,.slice none 0 0,.slice none 0 0] Wz ?_)
 | have qqgh:=qqgh
   refine zc (zn (v:=.int .u64 (x:Int)) (vs:=[.int .u64 (x:Int)]) rfl rfl rfl rfl Hk rfl Wj Wz wX #[.int .u8 2,.int .u64 (x:Int),.string ⟨#[]⟩,.slice none 0 0,.slice none 0 0] Wz ?_)
 | have qqgg:=qqgg
   refine zc (zn (v:=.int .u64 (x:Int)) (vs:=[.int .u64 (x:Int)]) rfl rfl rfl rfl Hk rfl Wj Wz wX #[.int .u8 8,.int .u64 (x:Int),.string ⟨#[]⟩,.slice none 0 0,.slice none 0 0] Wz ?_)
 | have qqgf:=qqgf
   refine zc (zn (v:=.string (str x)) (vs:=[.string (str x)]) rfl rfl rfl rfl Hk rfl Wj Wz wX #[.int .u8 149,.int .u64 0,.string (str x),.slice none 0 0,.slice none 0 0] Wz ?_)
 | refine zc (zn (v:=.string (str x)) (vs:=[.string (str x)]) rfl rfl rfl rfl Hk rfl Wj Wz wX #[.int .u8 160,.int .u64 0,.string (str x),.slice none 0 0,.slice none 0 0] Wz ?_)
 intro w7 Bt H5 _;have BJ:=Bs.kept H5 wZ;have lQ:=dz.grown H5 (sne Wq);have BA:=cP.grown bL H5 (fun g hg=>by injection hg with hg;exact⟨by omega,.inr (.inr Wq)⟩);go_wp2_with(with_reducible refine h_A ?_);go_meet
 first
 | have qqgj:=qqgj
   exact⟨.mk 49 x [] [] [],⟨none,0,none,0⟩,n-1,l2,b2,MZ,Bt,RV.leaf _ _ _ _ _ Wq Wq Wz,BJ,BA,lQ,by omega,Lib.hid (fun q hq=>by
    obtain⟨e1,e2⟩:=cl.out q hq;rw[e2]
    exact⟨rfl,rfl,rfl,e1⟩)⟩
 | have qqgi:=qqgi
   exact⟨.mk 50 x [] [] [],⟨none,0,none,0⟩,n-1,l2,b2,MZ,Bt,RV.leaf _ _ _ _ _ Wq Wq Wz,BJ,BA,lQ,by omega,Lib.hid (fun q hq=>by
    obtain⟨e1,e2⟩:=cl.out q hq;rw[e2]
    exact⟨rfl,rfl,rfl,e1⟩)⟩
 | have qqgh:=qqgh
   exact⟨.mk 2 x [] [] [],⟨none,0,none,0⟩,n-1,l2,b2,MZ,Bt,RV.leaf _ _ _ _ _ Wq Wq Wz,BJ,BA,lQ,by omega,Lib.hid (fun q hq=>by
    obtain⟨e1,e2⟩:=cl.out q hq;rw[e2]
    exact⟨rfl,rfl,rfl,e1⟩)⟩
 | have qqgg:=qqgg
   exact⟨.mk 8 x [] [] [],⟨none,0,none,0⟩,n-1,l2,b2,MZ,Bt,RV.leaf _ _ _ _ _ Wq Wq Wz,BJ,BA,lQ,by omega,Lib.hid (fun q hq=>by
    obtain⟨e1,e2⟩:=cl.out q hq;rw[e2]
    exact⟨rfl,rfl,rfl,e1⟩)⟩
 | have qqgf:=qqgf
   exact⟨.mk 149 0 x [] [],⟨none,0,none,0⟩,n-1,l2,b2,MZ,Bt,RV.leaf _ _ _ _ _ Wq Wq Wq,BJ,BA,lQ,by omega,Lib.hid (fun q hq=>by
    obtain⟨e1,e2⟩:=cl.out q hq;rw[e2]
    exact⟨rfl,rfl,rfl,e1⟩)⟩
 | exact⟨.mk 160 0 x [] [],⟨none,0,none,0⟩,n-1,l2,b2,MZ,Bt,RV.leaf _ _ _ _ _ Wq Wq Wq,BJ,BA,lQ,by omega,Lib.hid (fun q hq=>by
    obtain⟨e1,e2⟩:=cl.out q hq;rw[e2]
    exact⟨rfl,rfl,rfl,e1⟩)⟩):p:=h
theorem Z42_(h:p:=by
 intro wS He;have y0:=He.1.cell (j:=0) rfl;have y1:=He.1.cell (j:=1) rfl;have y2:=He.1.cell (j:=2) rfl;have y3:=He.1.cell (j:=3) rfl;have y4:=He.1.cell (j:=4) rfl;go_simp;(with_reducible rfl)):p:=h
theorem Z47_(h:p:=by
 clear h0;go_wp2_with(with_reducible refine h_B ?_);refine zc (zn (v:=.agg #[.int .u8 (k:Int),.int .u64 0,.string ⟨#[]⟩,.slice none 0 0,.slice none 0 0]) (vs:=[.int .u8 (k:Int),.int .u64 0,.string ⟨#[]⟩,.slice none 0 0,.slice none 0 0]) rfl rfl rfl rfl eH rfl Wj Wz uZ #[.int .u8 (k:Int),.int .u64 0,.string ⟨#[]⟩,.slice none 0 0,.slice none 0 0] Wz ?_);intro w8 dm H5 _;have BS:=hR.kept H5 wZ;have bT:=bm.grown bL H5 (fun g hg=>by injection hg with hg;exact⟨by omega,.inr (.inr Wq)⟩);go_wp2_with(with_reducible refine h_A ?_);refine zv rfl dm rfl rfl rfl underlying78 rfl Wj rfl ?_;rw[cI.out]
 exact⟨.mk k 0 [] [] [],⟨none,0,none,0⟩,(n:Int)-1,false,l1,b1,rfl,RV.leaf _ _ _ _ _ Wq Wq Wz,BS,bT,by omega,by omega,Mz,fun q hq=>by cases hq⟩):p:=h
theorem Z2_(h:p:=by
 intro d n F B b l bad w Cz hr hF hn;have hb:=hr.inF;have dx:=hF b hb;have fZ:=dx.2;have bL:B≤w.heap.size:=by omega
 first|(have qq3:=qq3;obtain⟨rr,B1⟩:∃q,q=qY 0 n l bad:=⟨_,rfl⟩)|(obtain⟨rr,B1⟩:∃q,q=qY (f+1) n l bad:=⟨_,rfl⟩)
 rw[←B1];have mV:=Lib.hid B1;clear B1;have dM:=Zc l bad;obtain⟨q1,eN⟩:∃q,q=mnum l bad 1:=⟨_,rfl⟩
 rw[←eN]at dM;obtain⟨k,l1,b1⟩:=q1;simp only at dM;have rK:=Lib.hid eN;clear eN;obtain⟨rb,w1,cX,cg,cG,Ha⟩:=zg w #[.int .u8 0,.int .u64 0,.string ⟨#[]⟩,.slice none 0 0,.slice none 0 0] 78;have dQ:=hr.below Ha;have lM:=(KP.refl B b b w).below bL Ha;go_enter func165,ntmps165;go_upto_region 1 with fail;rw[←cX,←cg];have nD:w.heap.size≤rb:=by omega
 clear cX cg hr Ha;have h1:=yG dQ 1 Wq Wq;rw[←rK.out]at h1;go_wp2_with(with_reducible refine h_A ?_);refine h1.mono ?_;rintro e w3 ⟨rfl,cj,H6⟩;have eI:=cG.grown H6 (sne Wq);have cz:=lM.grown bL H6 uX;clear h1 dQ lM cG H6;try simp only at cj
 obtain⟨xb,w4,Hg,Hi,hX,Hn⟩:=zg w3 #[.int .u8 (k:Int),.int .u64 0,.string ⟨#[]⟩,.slice none 0 0,.slice none 0 0] 78;have hR:=cj.below Hn;have rh:=eI.lt;have eH:=eI.below Hn;have bm:=cz.below bL Hn;have Wo:rb<xb:=by omega
 have r6:w.heap.size≤xb:=by omega
 go_upto_region 3 with fail;rw[←Hg,←Hi];clear Hg Hi Hn eI cj cz rh
 first
 | have qq3:=qq3
   have cI:Hid (rr=none):=Lib.hid (by rw[mV.out,ju _ _ _ _ (.inr (.inr rfl))]);(obtain rfl:d=7:=by omega);have c0:=hX.c0;have c1:=hX.c1;have c2:=hX.c2;have c3:=hX.c3
   have c4:=hX.c4
 | have gd:(d:Int)≤6:=by omega
 by_cases h0:n=0
 ·first|done|(have qq3:=qq3)|(have cI:Hid (rr=none):=Lib.hid (by rw[mV.out,ju _ _ _ _ (.inl h0)]))
  have g0:(n:Int)-1<0:=by omega
  first
  | done
  | have qq3:=qq3
  | have z0:=hX.c0
    have z1:=hX.c1;have z2:=hX.c2;have z3:=hX.c3;have z4:=hX.c4
  exact Z47_
 first
 | have qq3:=qq3
   ·have g0:¬(n:Int)-1<0:=by omega
    exact Z47_
 | have g0:¬(n:Int)-1<0:=by omega
   have eJ:((n:Int)-1)=((n-1:Nat):Int):=by omega
   have HV:Hid (∀q,rr=some q→b1=false∧(if k=240 then some ((.mk 240 0 [] [] []:Vl),l1,n-1)
    else if k=8∨k=2 then(if(mnum l1 b1 1).2.2=true then none else some (.mk k (mnum l1 b1 1).1 [] [] [],(mnum l1 b1 1).2.1,n-1))
    else if k=50∨k=49 then(if(mnum l1 b1 8).2.2=true then none else some (.mk k (mnum l1 b1 8).1 [] [] [],(mnum l1 b1 8).2.1,n-1))
    else if k=149 then(if(zT l1 b1 2 4096).2.2=true then none else some (.mk 149 0 (zT l1 b1 2 4096).1 [] [],(zT l1 b1 2 4096).2.1,n-1))
    else if k=160 then(if(zT l1 b1 4 4096).2.2=true then none else some (.mk 160 0 (zT l1 b1 4 4096).1 [] [],(zT l1 b1 4 4096).2.1,n-1))
    else if k=168∨k=169 then(j5 (yz f) (decide (k=168)) (n-1) l1).map (fun q=>(.mk k 0 [] q.1 q.2.1,q.2.2))else none)=some q):=Lib.hid (fun q hq=>by
    have e:=mV.out.symm.trans hq;obtain⟨e1,e2⟩:=QG e rK.out;subst e1 e2;refine⟨rfl,?_⟩;have e3:yz (f+1) n l=some q:=e;rw[Jj rK.out h0]at e3
    exact e3)
   clear mV rK;have x0:=hX.c0;generalize dr:(k:Int)=kI at*;have fk:=Lib.hid dr;clear dr;go_upto_block 0 with fail;clear x0;go_cut [2,10,11,12,13,14,15]from 32 to 107 (fun s2 _ _ _ _ _ _ wx=>RMid F B b n rb xb w rr s2 wx)
   case first=>
    by_cases k8:k=8
    ·have qqgg:=();exact Z3p_
    by_cases k2:k=2
    ·have qqgh:=();exact Z3p_
    by_cases M9:k=50
    ·have qqgi:=();exact Z3p_
    by_cases L3:k=49
    ·have qqgj:=();exact Z3p_
    by_cases ru:k=149
    ·have qqgf:=();exact Z3p_
    by_cases rg:k=160
    ·exact Z3p_
    by_cases uy:k=168
    ·exact Z3i_
    by_cases uV:k=169
    ·have qqeo:=();exact Z3i_
    have nv:Hid (∀q,rr=some q→(.mk k 0 [] [] []:Vl)=q.1∧l1=q.2.1∧n-1=q.2.2∧b1=false):=Lib.hid (fun q hq=>by
     obtain⟨bK,hv⟩:=HV.out q hq;by_cases rx:k=240
     ·rw[if_pos rx]at hv;(injection hv with hv);subst hv rx;exact⟨rfl,rfl,rfl,bK⟩
     ·rw[if_neg rx,if_neg Wq,if_neg Wq,if_neg ru,if_neg rg,if_neg Wq]at hv
      cases hv)
    (have j8:(kI==8)=false:=by rw[←fk.out];simp;omega);(have j2:(kI==2)=false:=by rw[←fk.out];simp;omega);(have j49:(kI==49)=false:=by rw[←fk.out];simp;omega);(have j50:(kI==50)=false:=by rw[←fk.out];simp;omega);(have Wn:(kI==149)=false:=by rw[←fk.out];simp;omega);(have hdu:(kI==160)=false:=by rw[←fk.out];simp;omega);(have WW:(kI==168)=false:=by rw[←fk.out];simp;omega);(have hej:(kI==169)=false:=by rw[←fk.out];simp;omega);clear k8 k2 L3 M9 ru rg uy uV;have Bt:=hX;rw[←fk.out]at Bt;go_wp2_with(with_reducible refine h_A ?_);go_meet;exact⟨.mk k 0 [] [] [],⟨none,0,none,0⟩,n-1,l1,b1,MZ,Bt,RV.leaf _ _ _ _ _ Wq Wq Wz,hR,bm,eH,by omega,nv⟩
   case rest=>
    obtain⟨x,h,m,l2,b2,rfl,hX,hV,hR,bm,cG,mR,HX⟩:=hcut
    have Bm:wc.cell? ⟨b,1,none⟩=some (.bool b2):=by
     obtain⟨A',n',c',e0,e1,_⟩:=hR;exact e1
    unfold vlV at hX;clear HV fk;go_upto_region 31 with fail;refine zt (fun W:World=>Box W xb 78 #[.int .u8 (x.kind:Int),.int .u64 (x.n:Int),.string (str x.s),.slice h.A1 x.keys.length h.c1,.slice h.A2 x.list.length h.c2]∧W.cell? ⟨b,1,none⟩=some (.bool b2)) Wj ?_;have hS:Box wc.drew xb 78 #[.int .u8 (x.kind:Int),.int .u64 (x.n:Int),.string (str x.s),.slice h.A1 x.keys.length h.c1,.slice h.A2 x.list.length h.c2]∧wc.drew.cell? ⟨b,1,none⟩=some (.bool b2):=⟨hX,Bm⟩;have hV:RV wc.drew (FN (xb+1) wc.drew) x h:=hV.keep (fun g hg=>rfl) (Nat.le_refl _);have hR:=hR.drew;have bm:=bm.drew;have cG:Box wc.drew rb 78 #[.int .u8 0,.int .u64 0,.string ⟨#[]⟩,.slice none 0 0,.slice none 0 0]:=cG;clear hX Bm;generalize wc.drew=wd at*;refine ze 0 (v:=?_) rfl Wj Wj Wj hS rfl ?_ ?_;rotate_left
    ·exact Z42_
    simp only[List.getElem_toArray,List.getElem_cons_zero,Act.put,List.setIfInBounds_toArray,List.set_cons_zero,List.set_cons_succ];refine rg_t 1 hS ?_;simp only[g_S];refine rg_t 2 hS ?_;simp only[g_S];refine rg_t 3 hS ?_;simp only[g_S];refine rg_t 4 hS ?_;simp only[g_S];refine ze 5 (v:=?_) rfl Wj Wj Wj hS rfl ?_ ?_;rotate_left
    ·intro wS He;have y0:=He.2;go_simp;(with_reducible rfl)
    simp only[g_S];refine rg_t 6 hS ?_;simp only[g_S];refine zj 7 rfl Wj rfl (fun K hK=>?_);refine zK (g:=rb) (j:=0) (v:=.agg #[.int .u8 (x.kind:Int),.int .u64 (x.n:Int),.string (str x.s),.slice h.A1 x.keys.length h.c1,.slice h.A2 x.list.length h.c2]) (vs:=[.int .u8 (x.kind:Int),.int .u64 (x.n:Int),.string (str x.s),.slice h.A1 x.keys.length h.c1,.slice h.A2 x.list.length h.c2]) rfl rfl rfl cG rfl Wj Wz (zaq x h) #[.int .u8 (x.kind:Int),.int .u64 (x.n:Int),.string (str x.s),.slice h.A1 x.keys.length h.c1,.slice h.A2 x.list.length h.c2] Wz ?_;intro we Sh cf _;have BI:Box we xb 78 #[.int .u8 (x.kind:Int),.int .u64 (x.n:Int),.string (str x.s),.slice h.A1 x.keys.length h.c1,.slice h.A2 x.list.length h.c2]∧we.cell? ⟨b,1,none⟩=some (.bool b2):=⟨hS.1.grown cf (sne Wq),cf.cell hS.2 (by intro e;have e2:b=rb:=(by simpa using e);omega)⟩;have iw:=hR.kept cf wZ;have SS:=bm.grown bL cf (fun g hg=>by injection hg with hg;exact⟨by omega,.inr (.inr Wq)⟩);refine hK _ _ BI ?_;clear hK K;(try simp only[g_S]);refine rg_t 8 BI ?_;simp only[g_S];refine rg_t 9 BI ?_;simp only[g_S];refine zz Wj ?_;go_wp2_with(with_reducible refine h_A ?_);refine zv rfl Sh rfl rfl rfl underlying78 rfl Wj rfl ?_;refine⟨x,h,(m:Int),!b2,l2,b2,rfl,?_,iw,SS,by omega,by omega,(fun _=>by omega),fun q hq=>?_⟩
    ·exact(hV.keep (fun g hg=>cf.block g hg.2 Hx) cf.size).mono (fun g hg=>⟨by have:=hg.1;omega,Nat.lt_of_lt_of_le hg.2 cf.size⟩)
    obtain⟨e1,e2,e3,e4⟩:=HX.out q hq
    exact⟨e1,e2,by rw[e3],by rw[e4];rfl,e4⟩):p:=h
theorem Z6c_(h:p:=by
 rintro e w9 ⟨rfl,rfl⟩;go_wp2_with(with_reducible refine h_A ?_);rw[cI.out]
 exact⟨rfl,rfl,bm⟩):p:=h
theorem Z4p_(h:p:=by
 go_wp2_with(with_reducible refine h_A ?_);refine BW.mono ?_
 exact Z6c_):p:=h
theorem Z3n_(h:p:=by
 first
 | have qqfl:=qqfl
   subst L3;obtain rfl:kI=49:=by rw[←fk.out];rfl
   have cl:Hid (rr=if(mnum l1 false 8).2.2=true then none else some (.mk 49 (mnum l1 false 8).1 [] [] [],(mnum l1 false 8).2.1,n-1)):=Lib.hid (by rw[HV.out,if_neg WJ,if_neg WJ,if_pos (.inr rfl)])
 | have qqfk:=qqfk
   subst M9;obtain rfl:kI=50:=by rw[←fk.out];rfl
   have cl:Hid (rr=if(mnum l1 false 8).2.2=true then none else some (.mk 50 (mnum l1 false 8).1 [] [] [],(mnum l1 false 8).2.1,n-1)):=Lib.hid (by rw[HV.out,if_neg WJ,if_neg WJ,if_pos (.inl rfl)])
 | have qqfj:=qqfj
   subst k2;obtain rfl:kI=2:=by rw[←fk.out];rfl
   have cl:Hid (rr=if(mnum l1 false 1).2.2=true then none else some (.mk 2 (mnum l1 false 1).1 [] [] [],(mnum l1 false 1).2.1,n-1)):=Lib.hid (by rw[HV.out,if_neg WJ,if_pos (.inr rfl)])
 | have qqfi:=qqfi
   subst k8;obtain rfl:kI=8:=by rw[←fk.out];rfl
   have cl:Hid (rr=if(mnum l1 false 1).2.2=true then none else some (.mk 8 (mnum l1 false 1).1 [] [] [],(mnum l1 false 1).2.1,n-1)):=Lib.hid (by rw[HV.out,if_neg WJ,if_pos (.inl rfl)])
 | have qqfh:=qqfh
   subst ru;obtain rfl:kI=149:=by rw[←fk.out];rfl
   have cl:Hid (rr=if(zT l1 false 2 4096).2.2=true then none else some (.mk 149 0 (zT l1 false 2 4096).1 [] [],(zT l1 false 2 4096).2.1,n-1)):=Lib.hid (by rw[HV.out,if_neg WJ,if_neg WJ,if_neg WJ,if_pos rfl])
 | subst rg
   (obtain rfl:kI=160:=by rw[←fk.out];rfl);have cl:Hid (rr=if(zT l1 false 4 4096).2.2=true then none else some (.mk 160 0 (zT l1 false 4 4096).1 [] [],(zT l1 false 4 4096).2.1,n-1)):=Lib.hid (by rw[HV.out,if_neg WJ,if_neg WJ,if_neg WJ,if_neg WJ,if_pos rfl])
 clear HV;have x0:=hX.c0;have c0:=hP.c0
 first
 | have qqfl:=qqfl
   have h2:=yk hR 8 Wq Wq;have hlt:=xg l1 false 8
   obtain⟨T,hT⟩:∃t,t=mnum l1 false 8:=⟨_,rfl⟩
 | have qqfk:=qqfk
   have h2:=yk hR 8 Wq Wq;have hlt:=xg l1 false 8
   obtain⟨T,hT⟩:∃t,t=mnum l1 false 8:=⟨_,rfl⟩
 | have qqfj:=qqfj
   have h2:=yk hR 1 Wq Wq;have hlt:=xg l1 false 1
   obtain⟨T,hT⟩:∃t,t=mnum l1 false 1:=⟨_,rfl⟩
 | have qqfi:=qqfi
   have h2:=yk hR 1 Wq Wq;have hlt:=xg l1 false 1
   obtain⟨T,hT⟩:∃t,t=mnum l1 false 1:=⟨_,rfl⟩
 | have qqfh:=qqfh
   have h2:=qD hR 2 4096 Wq Wq Wq Wq;have hlt:=yY l1 false 2 4096;rw[show((4096:Nat):Int)=4096 from rfl]at hlt
   obtain⟨T,hT⟩:∃t,t=zT l1 false 2 4096:=⟨_,rfl⟩
 | have h2:=qD hR 4 4096 Wq Wq Wq Wq
   have hlt:=yY l1 false 4 4096;rw[show((4096:Nat):Int)=4096 from rfl]at hlt;obtain⟨T,hT⟩:∃t,t=zT l1 false 4 4096:=⟨_,rfl⟩
 rw[←hT]at h2 hlt cl;obtain⟨x,l2,b2⟩:=T;simp only at h2 hlt;clear hT;go_wp2_with(with_reducible refine h_B ?_);refine h2.mono ?_;rintro e w6 ⟨rfl,Bs,Hm⟩;replace hR:=Bs;replace hP:=hP.grown Hm (sne Wq);replace hX:=hX.grown Hm (sne Wq);replace cG:=cG.grown Hm (sne Wq);replace bm:=bm.grown bL Hm nJ;clear Bs Hm c0 x0;clear h2;go_wp2_with(with_reducible refine h_B ?_)
 first
 | have qqfl:=qqfl
   refine zc (zn (v:=.int .u64 (x:Int)) (vs:=[.int .u64 (x:Int)]) rfl rfl rfl rfl hX rfl Wj Wz wX #[.int .u8 49,.int .u64 (x:Int),.string ⟨#[]⟩,.slice none 0 0,.slice none 0 0] Wz ?_)
 | have qqfk:=qqfk
   refine zc (zn (v:=.int .u64 (x:Int)) (vs:=[.int .u64 (x:Int)]) rfl rfl rfl rfl hX rfl Wj Wz wX #[.int .u8 50,.int .u64 (x:Int),.string ⟨#[]⟩,.slice none 0 0,.slice none 0 0] Wz ?_)
 | have qqfj:=qqfj
   refine zc (zn (v:=.int .u64 (x:Int)) (vs:=[.int .u64 (x:Int)]) rfl rfl rfl rfl hX rfl Wj Wz wX #[.int .u8 2,.int .u64 (x:Int),.string ⟨#[]⟩,.slice none 0 0,.slice none 0 0] Wz ?_)
 | have qqfi:=qqfi
   refine zc (zn (v:=.int .u64 (x:Int)) (vs:=[.int .u64 (x:Int)]) rfl rfl rfl rfl hX rfl Wj Wz wX #[.int .u8 8,.int .u64 (x:Int),.string ⟨#[]⟩,.slice none 0 0,.slice none 0 0] Wz ?_)
 | have qqfh:=qqfh
   refine zc (zn (v:=.string (str x)) (vs:=[.string (str x)]) rfl rfl rfl rfl hX rfl Wj Wz wX #[.int .u8 149,.int .u64 0,.string (str x),.slice none 0 0,.slice none 0 0] Wz ?_)
 | refine zc (zn (v:=.string (str x)) (vs:=[.string (str x)]) rfl rfl rfl rfl hX rfl Wj Wz wX #[.int .u8 160,.int .u64 0,.string (str x),.slice none 0 0,.slice none 0 0] Wz ?_)
 intro w7 Bt H5 _;replace hR:=hR.kept H5 wZ;replace hP:=hP.grown H5 (sne Wq);replace cG:=cG.grown H5 (sne Wq);replace bm:=bm.grown bL H5 (fun g hg=>by injection hg with hg;exact⟨by omega,.inr (.inr Wq)⟩);clear H5;clear hX;have hX:=Bt;clear Bt
 cases b2
 ·first
  | have qqfl:=qqfl
    have cI:=Lib.hid (show rr=some (.mk 49 x [] [] [],l2,n-1) by rw[cl.out];rfl)
  | have qqfk:=qqfk
    have cI:=Lib.hid (show rr=some (.mk 50 x [] [] [],l2,n-1) by rw[cl.out];rfl)
  | have qqfj:=qqfj
    have cI:=Lib.hid (show rr=some (.mk 2 x [] [] [],l2,n-1) by rw[cl.out];rfl)
  | have qqfi:=qqfi
    have cI:=Lib.hid (show rr=some (.mk 8 x [] [] [],l2,n-1) by rw[cl.out];rfl)
  | have qqfh:=qqfh
    have cI:=Lib.hid (show rr=some (.mk 149 0 x [] [],l2,n-1) by rw[cl.out];rfl)
  | have cI:=Lib.hid (show rr=some (.mk 160 0 x [] [],l2,n-1) by rw[cl.out];rfl)
  clear cl;have BW:=xL hR hP;have x0:=hX.c0;go_wp2_with(with_reducible refine h_A ?_);refine BW.mono ?_;rintro e w9 ⟨rfl,rfl⟩;clear BW x0;have x0:=hX.c0;have x1:=hX.c1;have x2:=hX.c2;have x3:=hX.c3;have x4:=hX.c4;go_wp2_with(with_reducible refine h_B ?_)
  first
  | have qqfl:=qqfl
    refine zc (zn (v:=.agg #[.int .u8 49,.int .u64 (x:Int),.string ⟨#[]⟩,.slice none 0 0,.slice none 0 0]) (vs:=[.int .u8 49,.int .u64 (x:Int),.string ⟨#[]⟩,.slice none 0 0,.slice none 0 0]) rfl rfl rfl rfl cG rfl Wj Wz WQ #[.int .u8 49,.int .u64 (x:Int),.string ⟨#[]⟩,.slice none 0 0,.slice none 0 0] Wz ?_)
  | have qqfk:=qqfk
    refine zc (zn (v:=.agg #[.int .u8 50,.int .u64 (x:Int),.string ⟨#[]⟩,.slice none 0 0,.slice none 0 0]) (vs:=[.int .u8 50,.int .u64 (x:Int),.string ⟨#[]⟩,.slice none 0 0,.slice none 0 0]) rfl rfl rfl rfl cG rfl Wj Wz WQ #[.int .u8 50,.int .u64 (x:Int),.string ⟨#[]⟩,.slice none 0 0,.slice none 0 0] Wz ?_)
  | have qqfj:=qqfj
    refine zc (zn (v:=.agg #[.int .u8 2,.int .u64 (x:Int),.string ⟨#[]⟩,.slice none 0 0,.slice none 0 0]) (vs:=[.int .u8 2,.int .u64 (x:Int),.string ⟨#[]⟩,.slice none 0 0,.slice none 0 0]) rfl rfl rfl rfl cG rfl Wj Wz WQ #[.int .u8 2,.int .u64 (x:Int),.string ⟨#[]⟩,.slice none 0 0,.slice none 0 0] Wz ?_)
  | have qqfi:=qqfi
    refine zc (zn (v:=.agg #[.int .u8 8,.int .u64 (x:Int),.string ⟨#[]⟩,.slice none 0 0,.slice none 0 0]) (vs:=[.int .u8 8,.int .u64 (x:Int),.string ⟨#[]⟩,.slice none 0 0,.slice none 0 0]) rfl rfl rfl rfl cG rfl Wj Wz WQ #[.int .u8 8,.int .u64 (x:Int),.string ⟨#[]⟩,.slice none 0 0,.slice none 0 0] Wz ?_)
  | have qqfh:=qqfh
    refine zc (zn (v:=.agg #[.int .u8 149,.int .u64 0,.string (str x),.slice none 0 0,.slice none 0 0]) (vs:=[.int .u8 149,.int .u64 0,.string (str x),.slice none 0 0,.slice none 0 0]) rfl rfl rfl rfl cG rfl Wj Wz WQ #[.int .u8 149,.int .u64 0,.string (str x),.slice none 0 0,.slice none 0 0] Wz ?_)
  | refine zc (zn (v:=.agg #[.int .u8 160,.int .u64 0,.string (str x),.slice none 0 0,.slice none 0 0]) (vs:=[.int .u8 160,.int .u64 0,.string (str x),.slice none 0 0,.slice none 0 0]) rfl rfl rfl rfl cG rfl Wj Wz WQ #[.int .u8 160,.int .u64 0,.string (str x),.slice none 0 0,.slice none 0 0] Wz ?_)
  intro w8 dm H5 _;have BS:=hR.kept H5 wZ;have dn:=hP.grown H5 (sne Wq);have bT:=bm.grown bL H5 (fun g hg=>by injection hg with hg;exact⟨by omega,.inr (.inr Wq)⟩);go_wp2_with(with_reducible refine h_A ?_);refine xH rfl dm rfl underlying78 rfl Wj rfl ?_;rw[cI.out]
  first
  | have qqfl:=qqfl
    exact⟨⟨none,0,none,0⟩,rfl,RV.leaf _ _ _ _ _ Wq Wq Wz,BS,dn,bT⟩
  | have qqfk:=qqfk
    exact⟨⟨none,0,none,0⟩,rfl,RV.leaf _ _ _ _ _ Wq Wq Wz,BS,dn,bT⟩
  | have qqfj:=qqfj
    exact⟨⟨none,0,none,0⟩,rfl,RV.leaf _ _ _ _ _ Wq Wq Wz,BS,dn,bT⟩
  | have qqfi:=qqfi
    exact⟨⟨none,0,none,0⟩,rfl,RV.leaf _ _ _ _ _ Wq Wq Wz,BS,dn,bT⟩
  | exact⟨⟨none,0,none,0⟩,rfl,RV.leaf _ _ _ _ _ Wq Wq Wq,BS,dn,bT⟩
 have cI:=Lib.hid (show rr=none by rw[cl.out];rfl);clear cl;have BW:=xS hR hP true (.inr rfl)
 exact Z4p_):p:=h
theorem Z3q_(h:p:=by
 obtain⟨KS,L,lq,nq⟩:=q;first|(have qqgl:=qqgl;have cI:=Lib.hid (show rr=some (.mk 169 0 [] KS L,lq,nq) by rw[cl.out];rfl))|(have cI:=Lib.hid (show rr=some (.mk 168 0 [] KS L,lq,nq) by rw[cl.out];rfl))
 clear cl;go_wp2_with(with_reducible refine h_A ?_);refine mR.mono ?_;rintro e w7 ⟨AK,cK,A,c,xs,rfl,sP,hS,Bs,me,Hk,dS,dd,u1,oJ⟩;simp only at sP hS Bs me Hk dd u1 oJ;have dz:=dS.box eI Wq Wq;clear x0 mR hX hR hP cG bm;have BW:=xL Bs me;go_wp2_with(with_reducible refine h_A ?_);refine BW.mono ?_;rintro e w9 ⟨rfl,rfl⟩;clear BW;have hR:=Bs;have hP:=me;have cG:=dz;have bm:=cz.trans dS;have x0:=Hk.c0;have x1:=Hk.c1;have x2:=Hk.c2;have x3:=Hk.c3;have x4:=Hk.c4;go_wp2_with(with_reducible refine h_B ?_)
 first
 | have qqgl:=qqgl
   refine zc (zn (v:=.agg #[.int .u8 169,.int .u64 0,.string ⟨#[]⟩,.slice AK KS.length cK,.slice A L.length c]) (vs:=[.int .u8 169,.int .u64 0,.string ⟨#[]⟩,.slice AK KS.length cK,.slice A L.length c]) rfl rfl rfl rfl cG rfl Wj Wz WQ #[.int .u8 169,.int .u64 0,.string ⟨#[]⟩,.slice AK KS.length cK,.slice A L.length c] Wz ?_)
 | refine zc (zn (v:=.agg #[.int .u8 168,.int .u64 0,.string ⟨#[]⟩,.slice AK KS.length cK,.slice A L.length c]) (vs:=[.int .u8 168,.int .u64 0,.string ⟨#[]⟩,.slice AK KS.length cK,.slice A L.length c]) rfl rfl rfl rfl cG rfl Wj Wz WQ #[.int .u8 168,.int .u64 0,.string ⟨#[]⟩,.slice AK KS.length cK,.slice A L.length c] Wz ?_)
 intro w8 dm H5 _;have BS:=hR.kept H5 wZ;have dn:=hP.grown H5 (sne Wq);have bT:=bm.grown bL H5 (fun g hg=>by injection hg with hg;exact⟨by omega,.inr (.inr Wq)⟩);go_wp2_with(with_reducible refine h_A ?_);refine xH rfl dm rfl underlying78 rfl Wj rfl ?_;rw[cI.out];have cE:=hS.box H5 Wq;first|(have qqgl:=qqgl;have cg:=cE.rv (k:=169) (B:=w.heap.size) Wq Wq (fun x hx=>by have:=dd x hx;omega) Wq (by rw[←sP,List.length_map]at oJ;omega))|(have cg:=cE.rv (k:=168) (B:=w.heap.size) Wq Wq (fun x hx=>by have:=dd x hx;omega) Wq (by rw[←sP,List.length_map]at oJ;omega))
 rw[sP]at cg
 exact⟨⟨AK,cK,A,c⟩,rfl,cg,BS,dn,bT⟩):p:=h
theorem Z4o_(h:p:=by
 go_wp2_with(with_reducible refine h_A ?_);refine gR.mono ?_
 exact Z6c_):p:=h
theorem Z3y_(h:p:=by
 first
 | have qqhz:=qqhz
   have g0:(0:Int)≤(n:Int)-1:=by omega
   have gR:=xS hR hP false (.inl rfl)
 | have cI:Hid (rr=none):=Lib.hid (by rw[mV.out,ju _ _ _ _ (.inr (.inl (by rw[←rK.out])))])
   have gR:=xS hR hP true (.inr rfl)
 exact Z4o_):p:=h
theorem Z41_(h:p:=by
 have cI:=Lib.hid (show rr=none by rw[cl.out];rfl);clear cl;go_wp2_with(with_reducible refine h_A ?_);refine mR.mono ?_;rintro e w7 ⟨rfl,dS⟩;go_wp2_with(with_reducible refine h_A ?_);rw[cI.out]
 exact⟨rfl,rfl,cz.trans dS⟩):p:=h
theorem Z3_(h:p:=by
 intro d n F B pb vb v l bad w Cz hr hp hFp hF hBp hn;have ig:=hr.inF rfl;have rH:=hF vb ig;have GZ:pb≠vb:=fun e=>hFp (e▸ig)
 have Fy:=hp.lt;have bL:B≤w.heap.size:=by omega
 first|(have qq8:=qq8;obtain⟨rr,B1⟩:∃q,q=qY 0 n l bad:=⟨_,rfl⟩)|(obtain⟨rr,B1⟩:∃q,q=qY (f+1) n l bad:=⟨_,rfl⟩)
 rw[←B1];have mV:=Lib.hid B1;clear B1;have dM:=Zc l bad;obtain⟨q1,eN⟩:∃q,q=mnum l bad 1:=⟨_,rfl⟩
 rw[←eN]at dM;obtain⟨k,l1,b1⟩:=q1;simp only at dM;have rK:=Lib.hid eN;clear eN;obtain⟨rb,w1,cX,cg,cG,Ha⟩:=zg w #[.int .u8 0,.int .u64 0,.string ⟨#[]⟩,.slice none 0 0,.slice none 0 0] 78;have dQ:=hr.below Ha;have lz:=hp.below Ha;have lM:=(KP.refl B pb vb w).below bL Ha;have c1:=lz.c1;go_enter func177,ntmps177;go_upto_region 1 with fail;rw[←cX,←cg];have nD:w.heap.size≤rb:=by omega
 clear cX cg hr hp Ha;go_wp2_with(with_reducible refine h_B ?_);refine zc (zn (v:=.int .i64 ((n:Int)-1)) (vs:=[.int .i64 ((n:Int)-1)]) rfl rfl rfl rfl lz rfl Wj Wz wX #[v,.int .i64 ((n:Int)-1)] Wz ?_);intro w2 fW Hm _;have dz:=cG.grown Hm (sne Wq);have cH:=dQ.kept Hm (fun g hg=>by injection hg with hg;subst hg;exact hFp);have cP:=lM.grown bL Hm (fun g hg=>by injection hg with hg;subst hg;exact⟨hBp,.inl rfl⟩);clear c1 dQ lz lM cG Hm;have c0:=fW.c0;have h1:=yk cH 1 Wq Wq;rw[←rK.out]at h1;go_wp2_with(with_reducible refine h_B ?_);refine h1.mono ?_;rintro e w3 ⟨rfl,cj,H6⟩;have eI:=dz.grown H6 (sne Wq);have pp:=fW.grown H6 (sne Wq);have cz:=cP.grown bL H6 nJ;clear c0 h1 cH fW cP dz H6;try simp only at cj
 have hz:=Box.new w3 #[.int .u8 0,.int .u64 0,.string ⟨#[]⟩,.slice none 0 0,.slice none 0 0] 78;have cZ:=(Below.refl w3.heap.size w3).alloc (Nat.le_refl _) (.cells #[.int .u8 0,.int .u64 0,.string ⟨#[]⟩,.slice none 0 0,.slice none 0 0] 78);have rh:=eI.lt;go_wp2_with(with_reducible refine h_B ?_);obtain⟨xb,Hg⟩:∃g,g=w3.heap.size:=⟨_,rfl⟩
 rw[←Hg]at hz rh ⊢;have cQ:=cj.below cZ;have mp:=pp.below cZ;have uA:=eI.below cZ;have uw:=cz.below bL cZ;have hxa:w3.heap.size≤xb:=by omega
 have Oo:xb≤w3.heap.size:=by omega
 have Hh:B≤w3.heap.size:=Nat.le_trans bL cz.size;have lI:=(KP.refl B pb vb w3).below Hh cZ;have r6:w.heap.size≤xb:=by omega
 have WO:pb≠xb:=by omega
 have ek:vb≠xb:=by omega
 clear Hg cj pp cZ;generalize(w3.alloc (.cells #[.int .u8 0,.int .u64 0,.string ⟨#[]⟩,.slice none 0 0,.slice none 0 0] 78))=w4 at*;refine zc (zn (v:=.agg #[.int .u8 (k:Int),.int .u64 0,.string ⟨#[]⟩,.slice none 0 0,.slice none 0 0]) (vs:=[.int .u8 (k:Int),.int .u64 0,.string ⟨#[]⟩,.slice none 0 0,.slice none 0 0]) rfl rfl rfl rfl hz rfl Wj Wz uZ #[.int .u8 (k:Int),.int .u64 0,.string ⟨#[]⟩,.slice none 0 0,.slice none 0 0] Wz ?_);intro w5 hX H9 _;have hR:=cQ.kept H9 wZ;have hP:=mp.grown H9 (sne Wq);have cG:=uA.grown H9 (sne Wq);have bm:=uw.grown bL H9 (fun g hg=>by injection hg with hg;exact⟨by omega,.inr (.inr Wq)⟩);replace lI:=lI.grown Hh H9 (fun g hg=>by injection hg with hg;exact⟨by omega,.inr (.inr Wq)⟩);clear hz cQ mp uA uw H9;have c1:=hP.c1
 first
 | have qq8:=qq8
   have cI:Hid (rr=none):=Lib.hid (by rw[mV.out,ju _ _ _ _ (.inr (.inr rfl))])
   obtain rfl:d=7:=by omega
 | have gd:(d:Int)≤6:=by omega
 by_cases h0:n=0
 ·first|done|(have qq8:=qq8)|(have cI:Hid (rr=none):=Lib.hid (by rw[mV.out,ju _ _ _ _ (.inl h0)]))
  have g0:¬(0:Int)≤(n:Int)-1:=by omega
  have gR:=xS hR hP false (.inl rfl);exact Z4o_
 first
 | have qq8:=qq8
   ·have qqhz:=()
    exact Z3y_
 | have g0:(0:Int)≤(n:Int)-1:=by omega
   cases b1
   case true=>
    exact Z3y_
   case false=>
    obtain rfl:bad=false:=by
     cases bad
     ·rfl
     have:=rK.out;rw[zbo]at this;(injection this with _ this);injection this with _ this
     cases this
    have B1:rr=yz (f+1) n l:=mV.out;rw[Jj rK.out h0]at B1;have HV:=Lib.hid B1;clear mV rK B1;(have eJ:((n:Int)-1)=((n-1:Nat):Int):=by omega);have gR:=xL hR hP;go_wp2_with(with_reducible refine h_A ?_);refine gR.mono ?_;rintro e w6 ⟨rfl,rfl⟩;clear gR c1;rw[eJ]at hP;have x0:=hX.c0;generalize dr:(k:Int)=kI at*;have fk:=Lib.hid dr;clear x0 dr;by_cases rx:k=240
    ·subst rx;(obtain rfl:kI=240:=by rw[←fk.out];rfl);have cI:Hid (rr=some (.mk 240 0 [] [] [],l1,n-1)):=Lib.hid (by rw[HV.out,if_pos rfl]);clear HV;have BW:=xL hR hP;have x0:=hX.c0;go_wp2_with(with_reducible refine h_A ?_);refine BW.mono ?_;rintro e w9 ⟨rfl,rfl⟩;clear BW x0;have x0:=hX.c0;have x1:=hX.c1;have x2:=hX.c2;have x3:=hX.c3;have x4:=hX.c4;go_wp2_with(with_reducible refine h_B ?_);refine zc (zn (v:=.agg #[.int .u8 240,.int .u64 0,.string ⟨#[]⟩,.slice none 0 0,.slice none 0 0]) (vs:=[.int .u8 240,.int .u64 0,.string ⟨#[]⟩,.slice none 0 0,.slice none 0 0]) rfl rfl rfl rfl cG rfl Wj Wz WQ #[.int .u8 240,.int .u64 0,.string ⟨#[]⟩,.slice none 0 0,.slice none 0 0] Wz ?_);intro w8 dm H5 _;have BS:=hR.kept H5 wZ;have dn:=hP.grown H5 (sne Wq);have bT:=bm.grown bL H5 (fun g hg=>by injection hg with hg;exact⟨by omega,.inr (.inr Wq)⟩);go_wp2_with(with_reducible refine h_A ?_);refine xH rfl dm rfl underlying78 rfl Wj rfl ?_;rw[cI.out];exact⟨⟨none,0,none,0⟩,rfl,RV.leaf _ _ _ _ _ Wq Wq Wz,BS,dn,bT⟩
    by_cases k8:k=8
    ·have qqfi:=();exact Z3n_
    by_cases k2:k=2
    ·have qqfj:=();exact Z3n_
    by_cases M9:k=50
    ·have qqfk:=();exact Z3n_
    by_cases L3:k=49
    ·have qqfl:=();exact Z3n_
    by_cases ru:k=149
    ·have qqfh:=();exact Z3n_
    by_cases rg:k=160
    ·exact Z3n_
    by_cases uy:k=168
    ·subst uy;(obtain rfl:kI=168:=by rw[←fk.out];rfl);have cl:Hid (rr=(j5 (yz f) true (n-1) l1).map (fun q=>(.mk 168 0 [] q.1 q.2.1,q.2.2))):=Lib.hid (by rw[HV.out,if_neg WJ,if_neg WJ,if_neg WJ,if_neg WJ,if_neg WJ,if_pos (.inl rfl)];rfl);clear HV;have x0:=hX.c0;have mR:=zbq f bO d (n-1) F B pb vb xb v l1 w3 _ Wq ⟨hR,hP,hX,hFp,fun g hg=>⟨(hF g hg).1,Nat.lt_of_lt_of_le (hF g hg).2 cz.size⟩,Nat.lt_of_lt_of_le Fy cz.size,hBp,Hh,hxa,by omega,lI⟩;(obtain⟨vm,sB⟩:∃q,q=j5 (yz f) true (n-1) l1:=⟨_,rfl⟩);rw[←sB]at mR cl;clear sB
     cases vm with
     | none=>
      exact Z41_
     | some q=>
      exact Z3q_
    by_cases uV:k=169
    ·subst uV;(obtain rfl:kI=169:=by rw[←fk.out];rfl);have cl:Hid (rr=(j5 (yz f) false (n-1) l1).map (fun q=>(.mk 169 0 [] q.1 q.2.1,q.2.2))):=Lib.hid (by rw[HV.out,if_neg WJ,if_neg WJ,if_neg WJ,if_neg WJ,if_neg WJ,if_pos (.inr rfl)];rfl);clear HV;have x0:=hX.c0;have mR:=VI f bO d (n-1) F B pb vb xb v l1 w3 _ Wq ⟨hR,hP,hX,hFp,fun g hg=>⟨(hF g hg).1,Nat.lt_of_lt_of_le (hF g hg).2 cz.size⟩,Nat.lt_of_lt_of_le Fy cz.size,hBp,Hh,hxa,by omega,lI⟩;(obtain⟨vm,sB⟩:∃q,q=j5 (yz f) false (n-1) l1:=⟨_,rfl⟩);rw[←sB]at mR cl;clear sB
     cases vm with
     | none=>
      exact Z41_
     | some q=>
      have qqgl:=();exact Z3q_
    have cI:Hid (rr=none):=Lib.hid (by rw[HV.out,if_neg rx,if_neg Wq,if_neg Wq,if_neg ru,if_neg rg,if_neg Wq]);(have IX:(kI==240)=false:=by have:=fk.out;simp;omega);(have g8:(kI==8)=false:=by have:=fk.out;simp;omega);(have g2:(kI==2)=false:=by have:=fk.out;simp;omega);(have Uo:(kI==50)=false:=by have:=fk.out;simp;omega);(have TP:(kI==49)=false:=by have:=fk.out;simp;omega);(have Ll:(kI==149)=false:=by have:=fk.out;simp;omega);(have Ib:(kI==160)=false:=by have:=fk.out;simp;omega);(have WL:(kI==168)=false:=by have:=fk.out;simp;omega);(have WB:(kI==169)=false:=by have:=fk.out;simp;omega);clear HV rx k8 k2 M9 L3 ru rg uy uV fk;have x0:=hX.c0;have BW:=xS hR hP false (.inl rfl)
    exact Z4p_):p:=h
theorem Z3x_(h:p:=by
 first|(have qqhx:=qqhx;have mD:Hid (zF (L0.drop j)=2*fl):=Lib.hid (by rw[HF.out];simp))|(have mD:Hid (zF (L0.drop j)=2*fl+1):=Lib.hid (by rw[HF.out];simp;omega))
 clear HF;go_wp2_with(with_reducible refine h_A ?_)
 exact⟨⟨j,(j:Int)-1,by omega,rfl,by rw[mD.out];first|rfl|(congr;omega),by go_num,bR,bA,bE,bG⟩,by first|(simp[RowKit.intOf];done)|(simp[RowKit.intOf];omega)⟩):p:=h
theorem Z5p_(h:p:=by
 go_wp2_with(with_reducible refine h_A ?_);go_ret2
 exact⟨none,0,rfl,Own.none_ _ _ _ _,bG⟩):p:=h
theorem Z4_(h:p:=by
 first
 | have qq1o:=qq1o
   (have g1:¬(2:Int)<(cls:Int):=by omega);have bR:=fD;have bA:=nV;have bE:=sW;have bG:=hBa
   obtain⟨H,hH⟩:∃H,H=[UInt8.ofNat cls,UInt8.ofNat cod]:=⟨_,rfl⟩
 | have qq1n:=qq1n
   have gf:=yn (w:=w6) w6.heap.size #[.int .u8 1,.int .u8 1] 5 2 (Nat.le_refl _) WX (size:=1) rfl Wq;have ul:RdB (w6.alloc (.cells #[.int .u8 1,.int .u8 1] 5)) (w6.alloc (.cells #[.int .u8 1,.int .u8 1] 5)).heap.size (some ⟨w6.heap.size,0,none⟩) 2 2 [1,1]:=gf.rd;have cN:OwnB (w6.alloc (.cells #[.int .u8 1,.int .u8 1] 5)) (rb+1) (some ⟨lb,0,none⟩) 2 2 [UInt8.ofNat cls,UInt8.ofNat cod]:=fD.alloc _;have Dr:=nV.alloc (.cells #[.int .u8 1,.int .u8 1] 5);have Fg:=sW.alloc (.cells #[.int .u8 1,.int .u8 1] 5);have lZ:=hBa.alloc hBa.size (.cells #[.int .u8 1,.int .u8 1] 5);have lu:=sW.lt;go_wp2_with(with_reducible refine h_A ?_);refine zc (yc slB rfl rfl rfl rfl cN ul (zM _) Wq Hj (by have:=Fg.lt;omega) ?_);intro A6 c6 w7 bR H7 _;have bA:=Dr.grown H7 Mq;have bE:=Fg.grown H7 Mq;have bG:=lZ.grown H7 lZ.size (fun g hg=>by have:=(cN.blk_lt hg).1;omega);rw[←List.map_append]at bR;clear x0 x1 x2 x3 fD gf ul cN nV sW hBa Dr Fg lZ H7
   obtain⟨H,hH⟩:∃H,H=[UInt8.ofNat cls,UInt8.ofNat cod]++ [1,1]:=⟨_,rfl⟩
 | have gf:=yn (w:=w6) w6.heap.size #[.int .u8 1,.int .u8 0] 5 2 (Nat.le_refl _) WX (size:=1) rfl Wq
   have ul:RdB (w6.alloc (.cells #[.int .u8 1,.int .u8 0] 5)) (w6.alloc (.cells #[.int .u8 1,.int .u8 0] 5)).heap.size (some ⟨w6.heap.size,0,none⟩) 2 2 [1,0]:=gf.rd;have cN:OwnB (w6.alloc (.cells #[.int .u8 1,.int .u8 0] 5)) (rb+1) (some ⟨lb,0,none⟩) 2 2 [UInt8.ofNat cls,UInt8.ofNat cod]:=fD.alloc _;have Dr:=nV.alloc (.cells #[.int .u8 1,.int .u8 0] 5);have Fg:=sW.alloc (.cells #[.int .u8 1,.int .u8 0] 5);have lZ:=hBa.alloc hBa.size (.cells #[.int .u8 1,.int .u8 0] 5);have lu:=sW.lt;go_wp2_with(with_reducible refine h_A ?_);refine zc (yc slB rfl rfl rfl rfl cN ul (zM _) Wq Hj (by have:=Fg.lt;omega) ?_);intro A6 c6 w7 bR H7 _;have bA:=Dr.grown H7 Mq;have bE:=Fg.grown H7 Mq;have bG:=lZ.grown H7 lZ.size (fun g hg=>by have:=(cN.blk_lt hg).1;omega);rw[←List.map_append]at bR;clear x0 x1 x2 x3 fD gf ul cN nV sW hBa Dr Fg lZ H7;obtain⟨H,hH⟩:∃H,H=[UInt8.ofNat cls,UInt8.ofNat cod]++ [1,0]:=⟨_,rfl⟩
 rw[←hH]at bR
 first
 | have qq1o:=qq1o
   have HH:Hid (H=hd0 cls cod sy):=Lib.hid (by rw[hH];unfold hd0;rw[if_pos dK];simp);have I3:H.length=2:=by rw[hH];rfl
   clear hH fD nV sW hBa x0 x1 x2 x3
 | have qq1n:=qq1n
   have HH:Hid (H=hd0 cls cod true):=Lib.hid (by rw[hH];unfold hd0;rw[if_neg dK];rfl);have I3:H.length=4:=by rw[hH];rfl
   clear hH
 | have HH:Hid (H=hd0 cls cod false):=Lib.hid (by rw[hH];unfold hd0;rw[if_neg dK];rfl)
   (have I3:H.length=4:=by rw[hH];rfl);clear hH
 have x0:=bA.c0;have x1:=bA.c1;have x2:=bA.c2;have x3:=bA.c3;go_wp2_with(with_reducible refine h_A ?_);clear x0 x1 x2 x3
 first
 | have qq1o:=qq1o
   go_loopw [7,8] (fun s7 s8 wr=>∃(k:Nat) (i:Int),k≤n∧i=(k:Int)-1∧s7= .int .u8 ((zF (L0.drop k):Nat):Int)∧s8= .int .i64 i∧OwnB wr (rb+1) (some ⟨lb,0,none⟩) 2 2 H∧Box wr xb 106 #[.int .u8 (cls:Int),.int .u8 (cod:Int),.bool sy,.slice A n c]∧Box wr rb 127 #[.int .u8 (rw_c:Int),.int .u8 (rw_k:Int),.string (str rw_n),.string (str kd)]∧Below w.heap.size w wr) (fun _ s8 _=>(RowKit.intOf s8+1).toNat)
 | have qq1n:=qq1n
   go_loopw [7,8] (fun s7 s8 wr=>∃(k:Nat) (i:Int),k≤n∧i=(k:Int)-1∧s7= .int .u8 ((zF (L0.drop k):Nat):Int)∧s8= .int .i64 i∧OwnB wr (rb+1) A6 4 c6 H∧Box wr xb 106 #[.int .u8 (cls:Int),.int .u8 (cod:Int),.bool true,.slice A n c]∧Box wr rb 127 #[.int .u8 (rw_c:Int),.int .u8 (rw_k:Int),.string (str rw_n),.string (str kd)]∧Below w.heap.size w wr) (fun _ s8 _=>(RowKit.intOf s8+1).toNat)
 | go_loopw [7,8] (fun s7 s8 wr=>∃(k:Nat) (i:Int),k≤n∧i=(k:Int)-1∧s7= .int .u8 ((zF (L0.drop k):Nat):Int)∧s8= .int .i64 i∧OwnB wr (rb+1) A6 4 c6 H∧Box wr xb 106 #[.int .u8 (cls:Int),.int .u8 (cod:Int),.bool false,.slice A n c]∧Box wr rb 127 #[.int .u8 (rw_c:Int),.int .u8 (rw_k:Int),.string (str rw_n),.string (str kd)]∧Below w.heap.size w wr) (fun _ s8 _=>(RowKit.intOf s8+1).toNat)
 case atStart=>exact⟨n,(n:Int)-1,by omega,rfl,by rw[List.drop_eq_nil_of_le Cs];rfl,by first|rfl|go_num,bR,bA,bE,bG⟩
 clear bR bA bE bG;obtain⟨k,i,hk,mo,rfl,rfl,bR,bA,bE,bG⟩:=hrel
 cases k with
 | succ j=>
  obtain rfl:i=(j:Int):=by omega
  have g0:(0:Int)≤(j:Int):=by omega
  have g9:(j:Int)<(n:Int):=by omega
  have DF:j<m.args.length:=by rw[←HN.out];omega
  obtain⟨ab,aoff,hx,hA,_,lh⟩:=sV.out j DF;have z0:wr.cell? ⟨ab,aoff+j*12,none⟩=_:=lh wr bG 0 _ rfl;have HF:Hid (zF (L0.drop j)=(if m.args[j].is then 1 else 0)+2*zF (L0.drop (j+1))):=Lib.hid (by rw[Rs.out j DF,zF];rfl)
  have dl:zF (L0.drop (j+1))<8:=by
   have h1:=xq (L0.drop (j+1));have h2:2 ^ (L0.drop (j+1)).length≤2 ^ 3:=Nat.pow_le_pow_right Wq mX;omega
  clear lh mo;generalize m.args[j].is=ais at*;generalize zF (L0.drop (j+1))=fl at*;subst hA;have x0:=bA.c0;have x1:=bA.c1;have x2:=bA.c2;have x3:=bA.c3
  cases ais
  ·have qqhx:=();exact Z3x_
  exact Z3x_
 | zero=>
  obtain rfl:i= -1:=by omega
  have dl:zF L0<8:=by
   have h1:=xq L0;have h2:2 ^ L0.length≤2 ^ 3:=Nat.pow_le_pow_right Wq Wq;omega
  rw[List.drop_zero];generalize zF L0=fl at*;have BC:=yn (w:=wr) wr.heap.size #[.int .u8 0,.int .u8 (fl:Int)] 5 2 (Nat.le_refl _) WX (size:=1) rfl Wq;have eln: #[Value.int .u8 0,.int .u8 (fl:Int)].toList=[0,UInt8.ofNat fl].map u8v:=by simp[u8v,Nat.mod_eq_of_lt (show fl<256 by omega)]
  rw[eln]at BC;have oO:RdB (wr.alloc (.cells #[.int .u8 0,.int .u8 (fl:Int)] 5)) (wr.alloc (.cells #[.int .u8 0,.int .u8 (fl:Int)] 5)).heap.size (some ⟨wr.heap.size,0,none⟩) 2 2 [0,UInt8.ofNat fl]:=BC.rd;first|(have qq1o:=qq1o;have dI:OwnB (wr.alloc (.cells #[.int .u8 0,.int .u8 (fl:Int)] 5)) (rb+1) (some ⟨lb,0,none⟩) 2 2 H:=bR.alloc _)|(have dI:OwnB (wr.alloc (.cells #[.int .u8 0,.int .u8 (fl:Int)] 5)) (rb+1) A6 4 c6 H:=bR.alloc _)
  have Bt:=bA.alloc (.cells #[.int .u8 0,.int .u8 (fl:Int)] 5);have BJ:=bE.alloc (.cells #[.int .u8 0,.int .u8 (fl:Int)] 5);have Bn:=bG.alloc bG.size (.cells #[.int .u8 0,.int .u8 (fl:Int)] 5);have ip:rb+1≤(wr.alloc (.cells #[.int .u8 0,.int .u8 (fl:Int)] 5)).heap.size:=BJ.lt;clear bR bA bE bG BC eln mo;go_wp2_with(with_reducible refine h_A ?_);refine zc (yc slB rfl rfl rfl rfl dI oO (zM _) Wq Hj ip ?_);intro A8 c8 w8 dP H5 _;have cq:=Bt.grown H5 (by intro e;have:=(dI.blk_lt e.symm).1;omega);have BS:=BJ.grown H5 (by intro e;have:=(dI.blk_lt e.symm).1;omega);have Bf:=Bn.grown H5 Bn.size (fun g hg=>by have:=(dI.blk_lt hg).1;omega);rw[←List.map_append]at dP;obtain⟨H2,uO⟩:∃H2,H2=H++ [0,UInt8.ofNat fl]:=⟨_,rfl⟩
  rw[←uO]at dP;first|(have qq1o:=qq1o;have Mh:Hid (kG cls cod sy fl=H2):=Lib.hid (by rw[YU _ _ _ _ Wq,uO,HH.out]))|(have qq1n:=qq1n;have Mh:Hid (kG cls cod true fl=H2):=Lib.hid (by rw[YU _ _ _ _ Wq,uO,HH.out]))|(have Mh:Hid (kG cls cod false fl=H2):=Lib.hid (by rw[YU _ _ _ _ Wq,uO,HH.out]))
  clear uO dI Bt BJ Bn H5 oO HH I3;have x0:=cq.c0;have x1:=cq.c1;have x2:=cq.c2;have x3:=cq.c3;go_wp2_with(with_reducible refine h_A ?_);clear x0 x1 x2 x3
  first
  | have qq1o:=qq1o
    go_loopw [6,9] (fun s6 s9 wr=>∃(k n6 c6:Nat) (A6:Option Addr),k≤n∧s6= .slice A6 n6 c6∧s9= .int .i64 (k:Int)∧OwnB wr (rb+1) A6 n6 c6 (H2++(List.range k).flatMap (byI m))∧n6≤10+2000000*k∧Box wr xb 106 #[.int .u8 (cls:Int),.int .u8 (cod:Int),.bool sy,.slice A n c]∧Box wr rb 127 #[.int .u8 (rw_c:Int),.int .u8 (rw_k:Int),.string (str rw_n),.string (str kd)]∧Below w.heap.size w wr∧Hid (∀j,j<k→okI m j=true)) (fun _ s9 _=>n-(RowKit.intOf s9).toNat)
  | have qq1n:=qq1n
    go_loopw [6,9] (fun s6 s9 wr=>∃(k n6 c6:Nat) (A6:Option Addr),k≤n∧s6= .slice A6 n6 c6∧s9= .int .i64 (k:Int)∧OwnB wr (rb+1) A6 n6 c6 (H2++(List.range k).flatMap (byI m))∧n6≤10+2000000*k∧Box wr xb 106 #[.int .u8 (cls:Int),.int .u8 (cod:Int),.bool true,.slice A n c]∧Box wr rb 127 #[.int .u8 (rw_c:Int),.int .u8 (rw_k:Int),.string (str rw_n),.string (str kd)]∧Below w.heap.size w wr∧Hid (∀j,j<k→okI m j=true)) (fun _ s9 _=>n-(RowKit.intOf s9).toNat)
  | go_loopw [6,9] (fun s6 s9 wr=>∃(k n6 c6:Nat) (A6:Option Addr),k≤n∧s6= .slice A6 n6 c6∧s9= .int .i64 (k:Int)∧OwnB wr (rb+1) A6 n6 c6 (H2++(List.range k).flatMap (byI m))∧n6≤10+2000000*k∧Box wr xb 106 #[.int .u8 (cls:Int),.int .u8 (cod:Int),.bool false,.slice A n c]∧Box wr rb 127 #[.int .u8 (rw_c:Int),.int .u8 (rw_k:Int),.string (str rw_n),.string (str kd)]∧Below w.heap.size w wr∧Hid (∀j,j<k→okI m j=true)) (fun _ s9 _=>n-(RowKit.intOf s9).toNat)
  case atStart=>exact⟨0,_,c8,A8,by omega,rfl,rfl,by simpa using dP,by omega,cq,BS,Bf,Lib.hid (fun j hj=>by omega)⟩
  clear dP cq BS Bf;obtain⟨k,n6,c9,A9,hk,rfl,rfl,bR,rO,bA,bE,bG,Bz⟩:=hrel;by_cases hlt:k<n
  ·(have f8:(k:Int)<(n:Int):=by omega);(have ee:k<kd.length:=by omega);(have MI:k<(str kd).size:=by rw[dD];exact ee);(have tQ:k<m.args.length:=by rw[←HN.out];exact hlt);obtain⟨ab,aoff,hx,hA,fa,CG⟩:=sV.out k tQ;(have gS:=fun(W:World) (hW:Below w.heap.size w W)=>EP.out k tQ ee hx W (fa.up hW));have lv:Hid (okI m k=false→RES=[]∧E=80):=Lib.hid (cJ.out k hlt)
   have mH:Hid (∀ok,ok=okI m k→ok=true→∀j,j<k+1→okI m j=true):=Lib.hid (fun ok h1 h2 j hj=>by
    by_cases e:j=k
    ·subst e;rw[←h1,h2]
    ·exact Bz.out j Wq)
   have Iz:Hid (H2++(List.range (k+1)).flatMap (byI m)=(H2++(List.range k).flatMap (byI m))++byI m k):=Lib.hid (by rw[List.range_succ,List.flatMap_append];simp);have eg:=GU.out k;(obtain⟨okk,gi⟩:∃o,o=okI m k:=⟨_,rfl⟩);rw[←gi]at gS lv;have oX:Hid (okk=true→∀j,j<k+1→okI m j=true):=Lib.hid (mH.out okk gi);clear fa mH gi;generalize m.args[k]=a at*;generalize(H2++(List.range k).flatMap (byI m))=J at*;subst hA;unfold agV at gS;have gP:=bE.lt;have x0:=bA.c0;have x1:=bA.c1;have x2:=bA.c2;have x3:=bA.c3;go_upto_region 20 with fail;clear x0 x1 x2 x3
   first
   | have qq1o:=qq1o
     refine zt (fun W:World=>Box W xb 106 #[.int .u8 (cls:Int),.int .u8 (cod:Int),.bool sy,.slice (some ⟨ab,aoff,none⟩) n c]∧Box W rb 127 #[.int .u8 (rw_c:Int),.int .u8 (rw_k:Int),.string (str rw_n),.string (str kd)]∧Below w.heap.size w W) Wj ?_
     have hS:Box wr.drew xb 106 #[.int .u8 (cls:Int),.int .u8 (cod:Int),.bool sy,.slice (some ⟨ab,aoff,none⟩) n c]∧Box wr.drew rb 127 #[.int .u8 (rw_c:Int),.int .u8 (rw_k:Int),.string (str rw_n),.string (str kd)]∧Below w.heap.size w wr.drew:=⟨bA,bE,za bG 1⟩
   | have qq1n:=qq1n
     refine zt (fun W:World=>Box W xb 106 #[.int .u8 (cls:Int),.int .u8 (cod:Int),.bool true,.slice (some ⟨ab,aoff,none⟩) n c]∧Box W rb 127 #[.int .u8 (rw_c:Int),.int .u8 (rw_k:Int),.string (str rw_n),.string (str kd)]∧Below w.heap.size w W) Wj ?_
     have hS:Box wr.drew xb 106 #[.int .u8 (cls:Int),.int .u8 (cod:Int),.bool true,.slice (some ⟨ab,aoff,none⟩) n c]∧Box wr.drew rb 127 #[.int .u8 (rw_c:Int),.int .u8 (rw_k:Int),.string (str rw_n),.string (str kd)]∧Below w.heap.size w wr.drew:=⟨bA,bE,za bG 1⟩
   | refine zt (fun W:World=>Box W xb 106 #[.int .u8 (cls:Int),.int .u8 (cod:Int),.bool false,.slice (some ⟨ab,aoff,none⟩) n c]∧Box W rb 127 #[.int .u8 (rw_c:Int),.int .u8 (rw_k:Int),.string (str rw_n),.string (str kd)]∧Below w.heap.size w W) Wj ?_
     have hS:Box wr.drew xb 106 #[.int .u8 (cls:Int),.int .u8 (cod:Int),.bool false,.slice (some ⟨ab,aoff,none⟩) n c]∧Box wr.drew rb 127 #[.int .u8 (rw_c:Int),.int .u8 (rw_k:Int),.string (str rw_n),.string (str kd)]∧Below w.heap.size w wr.drew:=⟨bA,bE,za bG 1⟩
   have dI:OwnB wr.drew (rb+1) A9 n6 c9 J:=Own.drewN bR 1;have ip:rb<wr.drew.heap.size:=gP;clear bA bE bG bR gP;generalize wr.drew=wd at*;refine rg_t 0 hS ?_;simp only[List.getElem_toArray,List.getElem_cons_zero,Act.put,List.setIfInBounds_toArray,List.set_cons_zero,List.set_cons_succ];refine ze 1 (v:=?_) rfl Wj Wj Wj hS rfl ?_ ?_;rotate_left
   ·intro wS He;have k3:=He.2.1.cell (j:=3) rfl;go_simp;(with_reducible rfl)
   simp only[g_S];refine rg_t 2 hS ?_;simp only[g_S];refine rg_t 3 hS ?_;simp only[g_S];refine rg_t 4 hS ?_;simp only[g_S];refine ze 5 (v:=?_) rfl Wj Wj Wj hS rfl ?_ ?_;rotate_left
   ·intro wS He;have k3:=He.1.cell (j:=3) rfl;go_simp;(with_reducible rfl)
   simp only[g_S];refine rg_t 6 hS ?_;simp only[g_S];refine rg_t 7 hS ?_;simp only[g_S];refine ze 8 (v:=?_) rfl Wj Wj Wj hS rfl ?_ ?_;rotate_left
   ·intro wS He;have eX:=CG _ He.2.2;have k_0:=eX 0 _ rfl;have k_1:=eX 1 _ rfl;have k_2:=eX 2 _ rfl;have k_3:=eX 3 _ rfl;have k_4:=eX 4 _ rfl;have k_5:=eX 5 _ rfl;have k_6:=eX 6 _ rfl;have k_7:=eX 7 _ rfl;have k_8:=eX 8 _ rfl;have k_9:=eX 9 _ rfl;have k_10:=eX 10 _ rfl;have k_11:=eX 11 _ rfl;simp only[Nat.add_zero]at k_0;clear eX;go_simp;(with_reducible rfl)
   simp only[g_S];refine zj 9 rfl Wj rfl (fun K hK=>?_);go_simp;refine(gS wd hS.2.2).mono ?_;rintro e w9 ⟨AC,nC,cC,rfl,Bl,nB⟩;obtain⟨Bt,BJ,Bn⟩:=hS
   first
   | have qq1o:=qq1o
     have hS:Box w9 xb 106 #[.int .u8 (cls:Int),.int .u8 (cod:Int),.bool sy,.slice (some ⟨ab,aoff,none⟩) n c]∧Box w9 rb 127 #[.int .u8 (rw_c:Int),.int .u8 (rw_k:Int),.string (str rw_n),.string (str kd)]∧Below w.heap.size w w9:=⟨Bt.below Bl,BJ.below Bl,Bn.trans (Bl.mono Bn.size)⟩
   | have qq1n:=qq1n
     have hS:Box w9 xb 106 #[.int .u8 (cls:Int),.int .u8 (cod:Int),.bool true,.slice (some ⟨ab,aoff,none⟩) n c]∧Box w9 rb 127 #[.int .u8 (rw_c:Int),.int .u8 (rw_k:Int),.string (str rw_n),.string (str kd)]∧Below w.heap.size w w9:=⟨Bt.below Bl,BJ.below Bl,Bn.trans (Bl.mono Bn.size)⟩
   | have hS:Box w9 xb 106 #[.int .u8 (cls:Int),.int .u8 (cod:Int),.bool false,.slice (some ⟨ab,aoff,none⟩) n c]∧Box w9 rb 127 #[.int .u8 (rw_c:Int),.int .u8 (rw_k:Int),.string (str rw_n),.string (str kd)]∧Below w.heap.size w w9:=⟨Bt.below Bl,BJ.below Bl,Bn.trans (Bl.mono Bn.size)⟩
   have dt:=zh dI Bl;have An:=hS.2.1.lt;clear Bt BJ Bn Bl dI gS CG ip;refine hK _ _ hS ?_;clear hK K;(try simp only[g_S]);refine rg_t 10 hS ?_;simp only[g_S];refine rg_t 11 hS ?_;simp only[g_S];refine rg_t 12 hS ?_;simp only[g_S];refine rg_t 13 hS ?_;simp only[g_S];refine rg_t 14 hS ?_;simp only[g_S];refine zz Wj ?_;obtain⟨bA,bE,bG⟩:=hS
   cases okk
   ·obtain⟨e1,e2⟩:=lv.out rfl;subst e1 e2;clear nB;exact Z5p_
   obtain⟨rfl,oN⟩:=nB rfl;clear nB;go_wp2_with(with_reducible refine h_A ?_);refine zc (yc slB rfl rfl rfl rfl dt oN.rd (zM _) Wq Hj Wq ?_);intro nG c10 rU eV ed _;have tO:=bA.grown ed (by intro e;have:=(dt.blk_lt e.symm).1;omega);have uC:=bE.grown ed (by intro e;have:=(dt.blk_lt e.symm).1;omega);have nP:=bG.grown ed bG.size (fun g hg=>by have:=(dt.blk_lt hg).1;omega);rw[←List.map_append]at eV;clear bA bE bG dt oN ed;go_wp2_with(with_reducible refine h_A ?_);exact⟨⟨k+1,_,c10,nG,by omega,rfl,by go_num,by rw[Iz.out];exact eV,by omega,tO,uC,nP,Lib.hid (oX.out (by first|rfl|trivial))⟩,by simp[RowKit.intOf];omega⟩
  have lT:k=n:=by omega
  have f8:¬(k:Int)<(n:Int):=by omega
  rw[lT]at bR;obtain⟨eK,hE⟩:=iF.out (fun j hj=>Bz.out j Wq);rw[Mh.out]at eK;rw[←eK]at bR;obtain rfl:n6=RES.length:=(RdB.length bR.rd).symm;subst hE;clear iF cJ Bz eK;have x0:=bA.c0;have x1:=bA.c1;have x2:=bA.c2;have x3:=bA.c3;go_wp2_with(with_reducible refine h_A ?_);go_ret2
  exact⟨A9,c9,rfl,bR.base_le Wq,bG⟩):p:=h
theorem Z4j_(h:p:=by
 go_wp2_with(with_reducible refine h_A ?_)
 (try simp only[Exit.inBlock,Exit.then])
 refine zv rfl eA rfl rfl rfl underlying73 rfl Wj rfl ?_;rw[HF.out,Jm]
 exact⟨rfl,cZ⟩):p:=h
theorem Z5_(h:p:=by
 have Hy:Below w.heap.size w (w.alloc (.cells zx 73)):=(Below.refl _ _).alloc (Nat.le_refl _) _;have cY:Box (w.alloc (.cells zx 73)) w.heap.size 73 zx:=Box.new _ _ _;have rW:RdB (w.alloc (.cells zx 73)) (w.alloc (.cells zx 73)).heap.size A n c l:=(hr.below Hy).more Hy.size;have tm:w.heap.size<(w.alloc (.cells zx 73)).heap.size:=cY.lt;first|(have qq1s:=qq1s;have cR:=yZ A n c l _ rW Wq)|(have cR:=qC A n c l _ rW Wq)
 have cW:l.length=n:=hr.length;have h4:=Q4 l;have HG:Hid (getR l=if(getX l).2.2=true then(xd00,0,4)else if(getX l).1.ok=true then((getX l).1,l.length-(getX l).2.1.length,0)else(xd00,0,40)):=Lib.hid rfl
 have HX:Hid (getX l=(⟨(mnum l false 4).1 % 4294967296,(getT (mnum l false 4).2.1 (mnum l false 4).2.2).1,(getT (getT (mnum l false 4).2.1 (mnum l false 4).2.2).2.1 (getT (mnum l false 4).2.1 (mnum l false 4).2.2).2.2).1⟩,
  (getT (getT (mnum l false 4).2.1 (mnum l false 4).2.2).2.1 (getT (mnum l false 4).2.1 (mnum l false 4).2.2).2.2).2)):=Lib.hid rfl
 have dY:=Vc l;generalize getR l=GR at*;first|(have qq1s:=qq1s;have eJ:=fun F b W (h:Qrd F W b l false)=>yG h 4 Wq Wq)|(have eJ:=fun F v vb W (h:Rdr F W v vb l false)=>yk h 4 Wq Wq)
 generalize mnum l false 4=m1 at*;obtain⟨f,l1,b1⟩:=m1;simp only at eJ HX h4;first|(have qq1s:=qq1s;have eO:=fun F b W (h:Qrd F W b l1 b1)=>jc h 1 255 Wq Wq Wq Wq)|(have eO:=fun F v vb W (h:Rdr F W v vb l1 b1)=>qD h 1 255 Wq Wq Wq Wq)
 rw[show zT l1 b1 1 255=getT l1 b1 from rfl]at eO;generalize getT l1 b1=m2 at*;obtain⟨s1,l2,b2⟩:=m2;simp only at eO HX;first|(have qq1s:=qq1s;have oL:=fun F b W (h:Qrd F W b l2 b2)=>jc h 1 255 Wq Wq Wq Wq)|(have oL:=fun F v vb W (h:Rdr F W v vb l2 b2)=>qD h 1 255 Wq Wq Wq Wq)
 rw[show zT l2 b2 1 255=getT l2 b2 from rfl]at oL;generalize getT l2 b2=m3 at*;obtain⟨s2,l3,b3⟩:=m3;simp only at oL HX;rw[Nat.mod_eq_of_lt h4]at HX;rw[HX.out]at dY HG;simp only at dY HG;obtain⟨CL,od,GL⟩:=dY;have gG:IntKind.u32.wrap ((f:Nat):Int)=(f:Int):=IntWalk.u32_in _ ⟨by omega,by omega⟩;first|(have qq1s:=qq1s;have b7:=fun W=>Z9 ⟨f,s1,s2⟩ W ⟨h4,by show s1.length≤_;omega,by show s2.length≤_;omega⟩)|(have b7:=fun W=>Xn ⟨f,s1,s2⟩ W ⟨h4,by show s1.length≤_;omega,by show s2.length≤_;omega⟩)
 unfold xdV at b7;simp only at b7;clear HX;rw[zcG]at Hy cY cR tm;first|(have qq1s:=qq1s;go_enter func139,ntmps139)|(go_enter func159,ntmps159)
 go_wp2_with(with_reducible refine h_A ?_);refine cR.mono ?_;first|(have qq1s:=qq1s;(rintro e w1 ⟨vb,rfl,ig,iM,Ha⟩))|((rintro e w1 ⟨rb,vb,rfl,LF,ig,iM,Ha⟩))
 have bK:=cY.below Ha;replace Ha:=Hy.trans (Ha.mono Hy.size);first|done|(have qq1s:=qq1s)|(have GN:∀W v l b,Rdr (fun g=>(w.alloc (.cells #[.int .u32 0,.string ⟨#[]⟩,.string ⟨#[]⟩] 73)).heap.size≤g∧g<w1.heap.size) W v (some vb) l b→vb<w1.heap.size:=fun W v l b h=>(h.inF rfl).2)
 generalize(w.alloc (.cells #[.int .u32 0,.string ⟨#[]⟩,.string ⟨#[]⟩] 73)).heap.size=N1 at*;clear cR Hy cY rW;go_wp2_with(with_reducible refine h_A ?_);first|(have qq1s:=qq1s;refine(eJ _ _ _ iM).mono ?_)|(refine(eJ _ _ _ _ iM).mono ?_)
 rintro e w2 ⟨rfl,Bs,Hm⟩;have bF:=bK.grown Hm (sne Wq);have Hc:=Ha.grown Hm Ha.size Wx;have ep:w1.heap.size≤w2.heap.size:=Hm.size;first|(have qq1s:=qq1s;have hlv:=Bs.inF.2)|(have hlv:=GN _ _ _ _ Bs)
 clear eJ iM bK Ha Hm
 first
 | done
 | have qq1s:=qq1s
 | have dh:=Box.new w2 zx 73
   have Ej:=bF.alloc (.cells zx 73);have Co:=Hc.alloc Hc.size (.cells zx 73);have Gh:=Bs.below ((Below.refl w2.heap.size w2).alloc (Nat.le_refl _) (.cells zx 73));have Ld:w.heap.size<w2.heap.size:=bF.lt;(obtain⟨g2,Hm⟩:∃g2,g2=w2.heap.size:=⟨_,rfl⟩);rw[zcG]at dh Ej Co Gh;rw[←Hm]at dh;clear bF Hc Bs;(have RH:w1.heap.size≤g2:=by omega);(have OD:w.heap.size<g2:=by omega);go_wp2_with(first|(with_reducible refine zZ ?_)|(with_reducible refine yr ?_)|(with_reducible refine yq ?_)|(with_reducible refine yg ?_)|(with_reducible refine yt (s:=9) (t:=55) ?_)|(with_reducible refine xr ?_));rw[←Hm];clear Hm;refine zc (zn (v:=.agg #[.int .u32 (f:Int),.string ⟨#[]⟩,.string ⟨#[]⟩]) (vs:=[.int .u32 (f:Int),.string ⟨#[]⟩,.string ⟨#[]⟩]) rfl rfl rfl rfl dh rfl Wj Wz (by simp;exact⟨rfl,rfl⟩) #[.int .u32 (f:Int),.string ⟨#[]⟩,.string ⟨#[]⟩] Wz ?_);intro w3 IJ H6 _;have bX:=Ej.grown H6 (sne Wq);have Hh:=Co.grown H6 Co.size Wx;have fw:=Gh.kept H6 (by rintro g ⟨rfl⟩ ⟨_,h⟩;omega);clear dh Ej Co Gh H6
 go_wp2_with(with_reducible refine h_A ?_);first|(have qq1s:=qq1s;refine(eO _ _ _ Bs).mono ?_)|(refine(eO _ _ _ _ fw).mono ?_)
 rintro e w4 ⟨rfl,gh,Ba⟩
 first
 | have qq1s:=qq1s
   have dJ:=bF.grown Ba (sne Wq);have Hn:=Hc.grown Ba Hc.size Wx;have eR:w1.heap.size≤w4.heap.size:=Nat.le_trans ep Ba.size
   clear eO Bs bF Hc Ba
 | have Lk:=IJ.grown Ba (sne Wq)
   have dJ:=bX.grown Ba (sne Wq);have Hn:=Hh.grown Ba Hh.size Wx;clear eO fw IJ bX Hh Ba;go_wp2_with(first|(with_reducible refine zZ ?_)|(with_reducible refine yr ?_)|(with_reducible refine yq ?_)|(with_reducible refine yg ?_)|(with_reducible refine yt (s:=9) (t:=55) ?_)|(with_reducible refine xr ?_));refine zc (zn (v:=.string (str s1)) (vs:=[.string (str s1)]) rfl rfl rfl rfl Lk rfl Wj Wz wX #[.int .u32 (f:Int),.string (str s1),.string ⟨#[]⟩] Wz ?_);intro w5 L9 H9 _;have cT:=dJ.grown H9 (sne Wq);have bw:=Hn.grown H9 Hn.size Wx;have eo:=gh.kept H9 (by rintro g ⟨rfl⟩ ⟨_,h⟩;omega);clear Lk dJ Hn gh H9
 go_wp2_with(with_reducible refine h_A ?_);first|(have qq1s:=qq1s;refine(oL _ _ _ gh).mono ?_)|(refine(oL _ _ _ _ eo).mono ?_)
 rintro e w6 ⟨rfl,bE,bz⟩
 first
 | have qq1s:=qq1s
   have di:=dJ.grown bz (sne Wq);have bG:=Hn.grown bz Hn.size Wx;have fc:w1.heap.size≤w6.heap.size:=Nat.le_trans eR bz.size;clear oL gh dJ Hn bz
   obtain⟨A3,c3,gV,ca⟩:=bE.cells
 | have IC:=L9.grown bz (sne Wq)
   have di:=cT.grown bz (sne Wq);have bG:=bw.grown bz bw.size Wx;clear oL eo L9 cT bw bz;go_wp2_with(first|(with_reducible refine zZ ?_)|(with_reducible refine yr ?_)|(with_reducible refine yq ?_)|(with_reducible refine yg ?_)|(with_reducible refine yt (s:=9) (t:=55) ?_)|(with_reducible refine xr ?_));refine zc (zn (v:=.string (str s2)) (vs:=[.string (str s2)]) rfl rfl rfl rfl IC rfl Wj Wz wX #[.int .u32 (f:Int),.string (str s1),.string (str s2)] Wz ?_);intro w7 lJ H7 _;have iR:=di.grown H7 (sne Wq);have Bn:=bG.grown H7 bG.size Wx;have BJ:=bE.kept H7 (by rintro g ⟨rfl⟩ ⟨_,h⟩;omega);clear IC di bG bE H7;go_wp2_with(with_reducible refine h_A ?_);refine(yD BJ).mono ?_
   (rintro e w8 ⟨rfl,rfl⟩)
 cases b3
 ·first
  | have qq1s:=qq1s
    have dh:=Box.new w6 #[.int .u32 (f:Int),.string (str s1),.string (str s2)] 73;have Em:=di.alloc (.cells #[.int .u32 (f:Int),.string (str s1),.string (str s2)] 73);have DT:=bG.alloc bG.size (.cells #[.int .u32 (f:Int),.string (str s1),.string (str s2)] 73);have FC:=bE.below ((Below.refl w6.heap.size w6).alloc (Nat.le_refl _) (.cells #[.int .u32 (f:Int),.string (str s1),.string (str s2)] 73));have Ld:w.heap.size<w6.heap.size:=di.lt;(obtain⟨g2,Hm⟩:∃g2,g2=w6.heap.size:=⟨_,rfl⟩);rw[←Hm]at dh;(have RH:w1.heap.size≤g2:=by omega);(have OD:w.heap.size<g2:=by omega);clear di bG bE;go_wp2_with(with_reducible refine h_A ?_);rw[←Hm];clear Hm gV ca;(obtain⟨w7,OC⟩:∃w7,w7=w6.alloc (.cells #[.int .u32 (f:Int),.string (str s1),.string (str s2)] 73):=⟨_,rfl⟩);rw[←OC]at dh Em DT FC ⊢;have lJ:Box w7 g2 73 #[.int .u32 (f:Int),.string (str s1),.string (str s2)]:=dh;have iR:Box w7 w.heap.size 73 zx:=Em;have Bn:Below w.heap.size w w7:=DT;have BJ:Qrd (fun g=>N1≤g∧g<w1.heap.size) w7 vb l3 false:=FC
    clear dh Em DT FC OC
  | skip
  have k0:=lJ.c0;have k1:=lJ.c1;have k2:=lJ.c2;first|done|(have qq1s:=qq1s)|(go_wp2_with(with_reducible refine h_A ?_))
  cases bJ:Xd.ok ⟨f,s1,s2⟩
  ·have HF:=Lib.hid (show GR=(xd00,0,40) by rw[HG.out,if_neg Wz,if_neg (by rw[bJ];simp)]);rw[Xd.err_no bJ]at b7;clear HG bJ;refine(b7 _).mono ?_;rintro e w9 ⟨rfl,Bl⟩;have gg:=iR.below Bl;have lB:=Bn.trans (Bl.mono Bn.size);go_wp2_with(first|(with_reducible refine zZ ?_)|(with_reducible refine yr ?_)|(with_reducible refine yq ?_)|(with_reducible refine yg ?_)|(with_reducible refine yt (s:=9) (t:=55) ?_)|(with_reducible refine xr ?_));refine zc (zn (v:=.agg zx) (vs:=zx.toList) rfl rfl rfl rfl gg rfl Wj WJ WJ zx rfl ?_);intro wz eA BP _;have cZ:=Below.grown lB BP (Below.size lB) Wx;exact Z4j_
  have HF:=Lib.hid (show GR=(⟨f,s1,s2⟩,l.length-l3.length,0) by rw[HG.out,if_neg Wz,if_pos bJ]);rw[Xd.err_ok bJ]at b7;clear HG bJ;refine(b7 _).mono ?_;rintro e w9 ⟨rfl,Bl⟩;have gg:=iR.below Bl;have u4:=lJ.below Bl;have lV:=BJ.below Bl;first|(have qq1s:=qq1s;obtain⟨A9,c9,hd0,fA⟩:=lV.cells)|(skip)
  have lB:=Bn.trans (Bl.mono Bn.size);first|(have qq1s:=qq1s;clear iR lJ BJ Bn Bl b7 k0 k1 k2 fA)|(clear iR lJ BJ Bn Bl b7 k0 k1 k2)
  have iJ:=gg.lt
  first
  | have qq1s:=qq1s
    have hS:(Box w9.drew g2 73 #[.int .u32 (f:Int),.string (str s1),.string (str s2)]∧w9.drew.cell? ⟨vb,0,none⟩=some (.slice A9 l3.length c9))∧Below w.heap.size w w9.drew:=⟨⟨u4,hd0⟩,za lB 1⟩
  | have hS:(Box w9.drew g2 73 #[.int .u32 (f:Int),.string (str s1),.string (str s2)]∧Rdr (fun g=>N1≤g∧g<w1.heap.size) w9.drew (.pointer (some ⟨rb,0,none⟩)) (some vb) l3 false)∧Below w.heap.size w w9.drew:=⟨⟨u4,lV.drew⟩,za lB 1⟩
  have Fx:Box w9.drew w.heap.size 73 #[.int .u32 0,.string ⟨#[]⟩,.string ⟨#[]⟩]:=gg;have pR:IntKind.i64.wrap ((n:Int)-(l3.length:Int))=((l.length-l3.length:Nat):Int):=by rw[IntWalk.i64_in _ ⟨by omega,by omega⟩];omega
  go_wp2_with(with_reducible refine h_A ?_)
  first
  | have qq1s:=qq1s
    refine zt (fun wx:World=>(Box wx g2 73 #[.int .u32 (f:Int),.string (str s1),.string (str s2)]∧wx.cell? ⟨vb,0,none⟩=some (.slice A9 l3.length c9))∧Below w.heap.size w wx) Wj ?_
    clear gg u4 lV lB iJ hd0
  | refine zt (fun wx:World=>(Box wx g2 73 #[.int .u32 (f:Int),.string (str s1),.string (str s2)]∧Rdr (fun g=>N1≤g∧g<w1.heap.size) wx (.pointer (some ⟨rb,0,none⟩)) (some vb) l3 false)∧Below w.heap.size w wx) Wj ?_
    clear gg u4 lV lB iJ
  generalize w9.drew=wd at*;refine ze 0 (v:=?_) rfl Wj Wj Wj hS rfl ?_ ?_;rotate_left
  ·intro wS He;have k0:=He.1.1.cell (j:=0) rfl;have k1:=He.1.1.cell (j:=1) rfl;have k2:=He.1.1.cell (j:=2) rfl;go_simp;(with_reducible rfl)
  simp only[List.getElem_toArray,List.getElem_cons_zero,Act.put,List.setIfInBounds_toArray,List.set_cons_zero,List.set_cons_succ];refine rg_t 1 hS ?_;simp only[g_S];refine rg_t 2 hS ?_;simp only[g_S];refine rg_t 3 hS ?_
  first
  | have qq1s:=qq1s
    simp only[g_S]
    refine rg_t 4 hS ?_
  | skip
  simp only[g_S]
  first
  | done
  | have qq1s:=qq1s
  | refine zj 4 rfl Wj rfl (fun K hK=>?_)
    go_simp;refine(yN hS.1.2).mono ?_;rintro e we ⟨rfl,rfl⟩;refine hK _ _ hS ?_;clear hK K
  refine rg_t 5 hS ?_
  first
  | have qq1s:=qq1s
    simp only[g_S];refine ze 6 (v:=?_) rfl Wj Wj Wj hS rfl ?_ ?_;rotate_left
    ·intro wS He;have k0:=He.1.2;go_simp;(with_reducible rfl)
    simp only[g_S];refine rg_t 7 hS ?_;simp only[g_S]
    refine rg_t 8 hS ?_
  | skip
  simp only[g_S];first|(have qq1s:=qq1s;refine zj 9 rfl Wj rfl (fun K hK=>?_))|(refine zj 6 rfl Wj rfl (fun K hK=>?_))
  refine zK (v:=.agg #[.int .u32 (f:Int),.string (str s1),.string (str s2)]) (vs:=[.int .u32 (f:Int),.string (str s1),.string (str s2)]) rfl rfl rfl Fx rfl Wj Wz (by simp;exact⟨rfl,rfl,rfl⟩) #[.int .u32 (f:Int),.string (str s1),.string (str s2)] Wz ?_;intro wz eA BP _
  first
  | have qq1s:=qq1s
    have BI:(Box wz g2 73 #[.int .u32 (f:Int),.string (str s1),.string (str s2)]∧wz.cell? ⟨vb,0,none⟩=some (.slice A9 l3.length c9))∧Below w.heap.size w wz:=⟨⟨hS.1.1.grown BP (sne Wq),BP.cell hS.1.2 (fun e=>by simp at e;omega)⟩,hS.2.grown BP hS.2.size Wx⟩
  | have BI:(Box wz g2 73 #[.int .u32 (f:Int),.string (str s1),.string (str s2)]∧Rdr (fun g=>N1≤g∧g<w1.heap.size) wz (.pointer (some ⟨rb,0,none⟩)) (some vb) l3 false)∧Below w.heap.size w wz:=⟨⟨hS.1.1.grown BP (sne Wq),hS.1.2.kept BP (by rintro g ⟨rfl⟩ ⟨h,_⟩;omega)⟩,hS.2.grown BP hS.2.size Wx⟩
  refine hK _ _ BI ?_;clear hK K;first|(have qq1s:=qq1s;refine rg_t 10 BI ?_)|(refine rg_t 7 BI ?_)
  simp only[g_S];first|(have qq1s:=qq1s;refine rg_t 11 BI ?_)|(refine rg_t 8 BI ?_)
  simp only[g_S];refine zz Wj ?_;go_wp2_with(with_reducible refine h_A ?_)
  (try simp only[Exit.inBlock,Exit.then])
  refine zv rfl eA rfl rfl rfl underlying73 rfl Wj rfl ?_;rw[HF.out];simp only[cW];exact⟨rfl,BI.2⟩
 have HF:=Lib.hid (show GR=(xd00,0,4) by rw[HG.out,if_pos rfl]);clear HG;go_wp2_with(first|(with_reducible refine zZ ?_)|(with_reducible refine yr ?_)|(with_reducible refine yq ?_)|(with_reducible refine yg ?_)|(with_reducible refine yt (s:=9) (t:=55) ?_)|(with_reducible refine xr ?_));first|(have qq1s:=qq1s;refine zc (zn (v:=.agg zx) (vs:=zx.toList) rfl rfl rfl rfl di rfl Wj WJ WJ zx rfl ?_))|(refine zc (zn (v:=.agg zx) (vs:=zx.toList) rfl rfl rfl rfl iR rfl Wj WJ WJ zx rfl ?_))
 intro wz eA BP _;first|(have qq1s:=qq1s;have cZ:=Below.grown bG BP (Below.size bG) Wx)|(have cZ:=Below.grown Bn BP (Below.size Bn) Wx)
 exact Z4j_):p:=h
theorem Z4l_(h:p:=by
 go_enter func60,ntmps60;go_upto_region 1 with fail;rw[←Hg,←Hi];clear Hg Hi;go_wp2_with(with_reducible refine h_A ?_);go_ret2
 exact⟨none,_,0,rfl,Ha,fun e=>by cases e⟩):p:=h
theorem Z3u_(h:p:=by
 first
 | have qqhh:=qqhh
   have cF:=Lib.hid BR.symm;clear BR
   obtain rfl:OK=false:=by rw[Bz.out];simp[okA,zy,ag0,agN,agS,agX,agQ,agX2,xd0,cF.out]
 | have qqhg:=qqhg
   have cF:=Lib.hid BR.symm;clear BR
   obtain rfl:OK=false:=by rw[Bz.out];simp[okA,zy,ag0,agN,agS,agX,agQ,agX2,xd0,cF.out]
 | have qqhf:=qqhf
   have cF:=Lib.hid BR.symm;clear BR
   obtain rfl:OK=false:=by rw[Bz.out];simp[okA,zy,ag0,agN,agS,agX,agQ,agX2,xd0,cF.out]
 | have gq:(0:Int)<(a.q.length:Int):=by omega
   have HQ:Hid (¬a.q=[]):=Lib.hid (fun e=>hq (List.length_eq_zero_iff.2 e));clear hq;obtain rfl:OK=false:=by rw[Bz.out];simp[okA,zy,ag0,agN,agS,agX,agQ,agX2,xd0,cF.out,HN.out,HS.out,HX.out,HQ.out]
 exact Z4l_):p:=h
theorem Z4d_(h:p:=by
 go_enter func60,ntmps60;go_upto_region 1 with fail;rw[←Hg,←Hi];clear Hg Hi;go_wp2_with(with_reducible refine h_A ?_);refine cM.mono ?_;rintro e w2 ⟨rfl,Hc⟩;clear cM;go_wp2_with(with_reducible refine h_A ?_);go_ret2
 exact⟨none,_,0,rfl,Ha.trans (Hc.mono Ha.size),fun e=>by cases e⟩):p:=h
theorem Z69_(h:p:=by
 intro wS He;have x1:=He.c1;have x2:=He.c2;go_simp
 (with_reducible rfl)):p:=h
theorem Z6_(h:p:=by
 unfold agV;obtain⟨xb,w1,Hg,Hi,hX,Ha⟩:=zg w #[.bool a.is,.int .u64 (a.n:Int),.string (str a.s),.int .u32 (a.x.fmt:Int),.string (str a.x.glob),.string (str a.x.bran),.slice h.A a.q.length h.c,.int .u8 (a.v.kind:Int),.int .u64 (a.v.n:Int),.string (str a.v.s),.slice h.h.A1 a.v.keys.length h.h.c1,.slice h.h.A2 a.v.list.length h.h.c2] 80;have dC:=ha.up Ha;have cM:=qv a.v vl0 h.h ⟨none,0,none,0⟩ w1 dC.v (RV.zero _ _);unfold jI vlV vl0 at cM;obtain⟨sv,Bi⟩:∃s,s=yJ a.v (.mk 0 0 [] [] []):=⟨_,rfl⟩
 rw[←Bi]at cM;have BV:yJ a.v vl0=sv:=Bi.symm;clear Bi
 first
 | have qq1w:=qq1w
   obtain⟨OK,fK⟩:∃o,o=okA 116 a:=⟨_,rfl⟩
   obtain⟨L,hL⟩:∃l,l=byA 116 a:=⟨_,rfl⟩
 | have qq1v:=qq1v
   obtain⟨OK,fK⟩:∃o,o=okA 115 a:=⟨_,rfl⟩
   obtain⟨L,hL⟩:∃l,l=byA 115 a:=⟨_,rfl⟩
 | have qq1u:=qq1u
   obtain⟨OK,fK⟩:∃o,o=okA 119 a:=⟨_,rfl⟩
   obtain⟨L,hL⟩:∃l,l=byA 119 a:=⟨_,rfl⟩
 | have qq1t:=qq1t
   obtain⟨OK,fK⟩:∃o,o=okA 110 a:=⟨_,rfl⟩
   obtain⟨L,hL⟩:∃l,l=byA 110 a:=⟨_,rfl⟩
 | obtain⟨OK,fK⟩:∃o,o=okA 100 a:=⟨_,rfl⟩
   obtain⟨L,hL⟩:∃l,l=byA 100 a:=⟨_,rfl⟩
 rw[←fK,←hL];have Bz:=Lib.hid fK;have HL:=Lib.hid hL;clear fK hL;have dD:=zi a.s;have c_0:=hX.c0;have c_1:=hX.c1;have c_2:=hX.c2;have c_3:=hX.c3;have c_4:=hX.c4;have c_5:=hX.c5;have c_6:=hX.c6;have c_7:=hX.c7;have c_8:=hX.c8;have c_9:=hX.c9;have c_10:=hX.c10;have c_11:=hX.c11;obtain⟨is,BR⟩:∃i,i=a.is:=⟨_,rfl⟩
 rw[←BR]at c_0
 cases is
 ·have qqhf:=();exact Z3u_
 have cF:=Lib.hid BR.symm;clear BR;first|(have qq1w:=qq1w;by_cases hn:a.n=0)|(have qq1v:=qq1v;by_cases hn:a.n=0)|(by_cases hs:a.s=[])
 ·first
  | have qq1w:=qq1w
    (have gn:((a.n:Int)!=0)=false:=by simp;omega);have HN:=Lib.hid hn
    clear hn
  | have qq1v:=qq1v
    (have gn:((a.n:Int)!=0)=false:=by simp;omega);have HN:=Lib.hid hn
    clear hn
  | have gs:((str a.s).toList != [])=false:=by rw[zl,hs];simp
    (have sG:(str a.s).toList.isEmpty=true:=by rw[zl,hs];rfl);have HS:=Lib.hid hs;clear hs
  by_cases hx:a.x=xd0
  ·have mU:=fun x y=>run_eqGuard_agg (P:=prog) w1 .neq 73 x y #[.int .u32 (a.x.fmt:Int),.string (str a.x.glob),.string (str a.x.bran)] #[.int .u32 0,.string ⟨#[]⟩,.string ⟨#[]⟩] yw
   have hne:∀w,(binOp .neq 73 (.agg #[.int .u32 (a.x.fmt:Int),.string (str a.x.glob),.string (str a.x.bran)]) (.agg #[.int .u32 0,.string ⟨#[]⟩,.string ⟨#[]⟩])).run prog w= .ok (.bool false) w:=fun w=>by
    have:=yU a.x xd0 w;rw[decide_eq_true hx]at this;exact this
   have HX:=Lib.hid hx;clear hx;by_cases hq:a.q.length=0
   ·(have gq:¬(0:Int)<(a.q.length:Int):=by omega);have HQ:=Lib.hid (List.length_eq_zero_iff.1 hq);clear hq
    cases sv
    ·have HV:=Lib.hid BV;clear BV
     first
     | have qq1w:=qq1w
       obtain rfl:OK=false:=by rw[Bz.out];simp[okA,zy,ag0,agN,agS,agX,agQ,agX2,xd0,cF.out,HN.out,HX.out,HQ.out,HV.out]
     | have qq1v:=qq1v
       obtain rfl:OK=false:=by rw[Bz.out];simp[okA,zy,ag0,agN,agS,agX,agQ,agX2,xd0,cF.out,HN.out,HX.out,HQ.out,HV.out]
     | obtain rfl:OK=false:=by rw[Bz.out];simp[okA,zy,ag0,agN,agS,agX,agQ,agX2,xd0,cF.out,HS.out,HX.out,HQ.out,HV.out]
     exact Z4d_
    have HV:=Lib.hid BV;clear BV
    first
    | have qq1w:=qq1w
      obtain rfl:L=zP [] a.s 2:=by rw[HL.out];simp[byA]
      have lH:Hid (OK=decide (zE a.s.length 2=0)):=Lib.hid mZ
    | have qq1v:=qq1v
      obtain rfl:L=zP [] a.s 1:=by rw[HL.out];simp[byA]
      have lH:Hid (OK=decide (zE a.s.length 1=0)):=Lib.hid mZ
    | have qq1u:=qq1u
      obtain rfl:L=be 2 a.n:=by rw[HL.out];simp[byA]
      have lH:Hid (OK=decide (a.n<65536)):=Lib.hid Uz
    | have qq1t:=qq1t
      obtain rfl:L=be 1 a.n:=by rw[HL.out];simp[byA]
      have lH:Hid (OK=decide (a.n<256)):=Lib.hid Uz
    | obtain rfl:L=be 4 a.n:=by rw[HL.out];simp[byA]
      have lH:Hid (OK=decide (a.n<4294967296)):=Lib.hid Uz
    go_enter func60,ntmps60;go_upto_region 1 with fail;rw[←Hg,←Hi];clear Hg Hi;go_wp2_with(with_reducible refine h_A ?_);refine cM.mono ?_;rintro e w2 ⟨rfl,Hc⟩;have Hk:=hX.below Hc;have db:=dC.up Hc;have H3:=Ha.trans (Hc.mono Ha.size);have cm:=H3.size;clear c_0 c_1 c_2 c_3 c_4 c_5 c_6 c_7 c_8 c_9 c_10 c_11;clear cM;have c_0:=Hk.c0;have c_1:=Hk.c1;have c_2:=Hk.c2;have c_3:=Hk.c3;have c_4:=Hk.c4;have c_5:=Hk.c5;have c_6:=Hk.c6;have c_7:=Hk.c7;have c_8:=Hk.c8;have c_9:=Hk.c9;have c_10:=Hk.c10;have c_11:=Hk.c11;go_wp2_with(with_reducible refine h_A ?_)
    first
    | have qq1w:=qq1w
      have fS:=fun W=>qd 116 2 rfl W
      have B6:=fun W=>vU none 0 0 [] a.s 2 W (Rd.nil _ _ _ _ WX _) db.s Wq
    | have qq1v:=qq1v
      have fS:=fun W=>qd 115 1 rfl W
      have B6:=fun W=>vU none 0 0 [] a.s 1 W (Rd.nil _ _ _ _ WX _) db.s Wq
    | have qq1u:=qq1u
      have gO:=db.n
      have fS:=fun W=>qd 119 2 rfl W
    | have qq1t:=qq1t
      have gO:=db.n
      have fS:=fun W=>qd 110 1 rfl W
    | have gO:=db.n
      have fS:=fun W=>qd 100 4 rfl W
    have hS:Box w2.drew xb 80 #[.bool a.is,.int .u64 (a.n:Int),.string (str a.s),.int .u32 (a.x.fmt:Int),.string (str a.x.glob),.string (str a.x.bran),.slice h.A a.q.length h.c,.int .u8 (a.v.kind:Int),.int .u64 (a.v.n:Int),.string (str a.v.s),.slice h.h.A1 a.v.keys.length h.h.c1,.slice h.h.A2 a.v.list.length h.h.c2]:=Hk;have Hh:Below w.heap.size w w2.drew:=za H3 1;refine zt (fun W:World=>Box W xb 80 #[.bool a.is,.int .u64 (a.n:Int),.string (str a.s),.int .u32 (a.x.fmt:Int),.string (str a.x.glob),.string (str a.x.bran),.slice h.A a.q.length h.c,.int .u8 (a.v.kind:Int),.int .u64 (a.v.n:Int),.string (str a.v.s),.slice h.h.A1 a.v.keys.length h.h.c1,.slice h.h.A2 a.v.list.length h.h.c2]) Wj ?_;clear Hk dC db Ha Hc H3 hX;clear c_0 c_1 c_2 c_3 c_4 c_5 c_6 c_7 c_8 c_9 c_10 c_11;have d9:=Hh.size
    first
    | have qq1w:=qq1w
      generalize zP [] a.s 2=M at*
      generalize zE a.s.length 2=E at*
    | have qq1v:=qq1v
      generalize zP [] a.s 1=M at*
      generalize zE a.s.length 1=E at*
    | skip
    generalize w2.drew=w3 at*;refine ze 0 (v:=?_) rfl Wj Wj Wj hS rfl ?_ ?_;rotate_left
    ·exact Z69_
    (try simp only[g_S]);refine ze 1 (v:=?_) rfl Wj Wj Wj hS rfl ?_ ?_;rotate_left
    ·exact Z69_
    (try simp only[g_S]);refine ze 2 (v:=?_) rfl Wj Wj Wj hS rfl ?_ ?_
    first
    | done
    | have qq1w:=qq1w
    | have qq1v:=qq1v
    | rotate_left
      ·exact Z69_
      (try simp only[g_S]);refine ze 5 (v:=?_) rfl Wj Wj Wj hS rfl ?_ ?_;rotate_left
      ·exact Z69_
      (try simp only[g_S]);refine ze 6 (v:=?_) rfl Wj Wj Wj hS rfl ?_ ?_;rotate_left
      ·exact Z69_
      (try simp only[g_S]);refine ze 7 (v:=?_) rfl Wj Wj Wj hS rfl ?_ ?_
    rotate_left
    ·exact Z69_
    (try simp only[g_S]);refine zj 3 rfl Wj rfl (fun K hK=>?_);go_simp;refine(fS _).mono ?_;rintro e w4 ⟨rfl,rfl⟩;refine hK _ _ hS ?_;clear hK K;(try simp only[g_S]);refine zj 4 rfl Wj rfl (fun K hK=>?_);go_simp;(first|(have qq1w:=qq1w;refine(B6 _).mono ?_)|(have qq1v:=qq1v;refine(B6 _).mono ?_)|(have qq1u:=qq1u;refine(yd a.n 2 w4 gO Wq).mono ?_)|(have qq1t:=qq1t;refine(yd a.n 1 w4 gO Wq).mono ?_)|(refine(yd a.n 4 w4 gO Wq).mono ?_));rintro e w5 ⟨A5,c5,rfl,ct,bw⟩;have BN:=hS.below bw
    first
    | done
    | have qq1w:=qq1w
    | have qq1v:=qq1v
    | refine hK _ _ BN ?_;clear hK K
      (try simp only[g_S]);refine zj 8 rfl Wj rfl (fun K hK=>?_);go_simp;refine(fS _).mono ?_
      (rintro e w6 ⟨rfl,rfl⟩)
    refine hK _ _ BN ?_;clear hK K
    first
    | done
    | have qq1w:=qq1w
    | have qq1v:=qq1v
    | try simp only[g_S]
      refine ze 9 (v:=?_) rfl Wj Wj Wj BN rfl ?_ ?_;rotate_left
      ·exact Z69_
    (try simp only[g_S]);(first|(have qq1w:=qq1w;refine ze 5 (v:=?_) rfl Wj Wj Wj BN rfl ?_ ?_)|(have qq1v:=qq1v;refine ze 5 (v:=?_) rfl Wj Wj Wj BN rfl ?_ ?_)|(refine ze 10 (v:=?_) rfl Wj Wj Wj BN rfl ?_ ?_));rotate_left
    ·exact Z69_
    (try simp only[g_S]);(first|(have qq1w:=qq1w;refine ze 6 (v:=?_) rfl Wj Wj Wj BN rfl ?_ ?_)|(have qq1v:=qq1v;refine ze 6 (v:=?_) rfl Wj Wj Wj BN rfl ?_ ?_)|(refine ze 11 (v:=?_) rfl Wj Wj Wj BN rfl ?_ ?_));rotate_left
    ·exact Z69_
    (try simp only[g_S]);(first|(have qq1w:=qq1w;refine ze 7 (v:=?_) rfl Wj Wj Wj BN rfl ?_ ?_)|(have qq1v:=qq1v;refine ze 7 (v:=?_) rfl Wj Wj Wj BN rfl ?_ ?_)|(refine ze 12 (v:=?_) rfl Wj Wj Wj BN rfl ?_ ?_));rotate_left
    ·exact Z69_
    (try simp only[g_S]);(first|(have qq1w:=qq1w;refine ze 8 (v:=?_) rfl Wj Wj Wj BN rfl ?_ ?_)|(have qq1v:=qq1v;refine ze 8 (v:=?_) rfl Wj Wj Wj BN rfl ?_ ?_)|(refine ze 13 (v:=?_) rfl Wj Wj Wj BN rfl ?_ ?_));rotate_left
    ·exact Z69_
    (try simp only[g_S]);(first|(have qq1w:=qq1w;refine ze 9 (v:=?_) rfl Wj Wj Wj BN rfl ?_ ?_)|(have qq1v:=qq1v;refine ze 9 (v:=?_) rfl Wj Wj Wj BN rfl ?_ ?_)|(refine ze 14 (v:=?_) rfl Wj Wj Wj BN rfl ?_ ?_));rotate_left
    ·exact Z69_
    (try simp only[g_S]);refine zz Wj ?_;go_wp2_with(with_reducible refine h_A ?_);go_ret2;(first|(have qq1w:=qq1w;refine⟨A5,_,c5,?_,Hh.trans (bw.mono d9),fun _=>⟨rfl,Own.base_le ct d9⟩⟩)|(have qq1v:=qq1v;refine⟨A5,_,c5,?_,Hh.trans (bw.mono d9),fun _=>⟨rfl,Own.base_le ct d9⟩⟩)|(refine⟨A5,_,c5,?_,Hh.trans (bw.mono d9),fun _=>⟨by rw[zr],Own.base_le ct d9⟩⟩));rw[lH.out]
    first
    | have qq1w:=qq1w
      first|rfl|(simp;done)|(congr)|trace_state
    | have qq1v:=qq1v
      first|rfl|(simp;done)|(congr)|trace_state
    | have qq1u:=qq1u
      have e:decide ((a.n:Int)<IntKind.u64.wrap (2 ^ min (IntKind.u64.wrap (IntKind.i64.wrap 16)).toNat 64))=decide (a.n<65536):=by
       rw[show IntKind.u64.wrap (2 ^ min (IntKind.u64.wrap (IntKind.i64.wrap 16)).toNat 64)=(65536:Int) by decide+kernel];apply decide_eq_decide.2;omega
      exact congrArg (fun b=>Ending.returned (.tuple #[.slice A5 2 c5,.bool b])) e
    | have qq1t:=qq1t
      have e:decide ((a.n:Int)<IntKind.u64.wrap (2 ^ min (IntKind.u64.wrap (IntKind.i64.wrap 8)).toNat 64))=decide (a.n<256):=by
       rw[show IntKind.u64.wrap (2 ^ min (IntKind.u64.wrap (IntKind.i64.wrap 8)).toNat 64)=(256:Int) by decide+kernel];apply decide_eq_decide.2;omega
      exact congrArg (fun b=>Ending.returned (.tuple #[.slice A5 1 c5,.bool b])) e
    | have e:decide ((a.n:Int)<IntKind.u64.wrap (2 ^ min (IntKind.u64.wrap (IntKind.i64.wrap 32)).toNat 64))=decide (a.n<4294967296):=by
       rw[show IntKind.u64.wrap (2 ^ min (IntKind.u64.wrap (IntKind.i64.wrap 32)).toNat 64)=(4294967296:Int) by decide+kernel];apply decide_eq_decide.2;omega
      exact congrArg (fun b=>Ending.returned (.tuple #[.slice A5 4 c5,.bool b])) e
   (have gq:(0:Int)<(a.q.length:Int):=by omega);have HQ:Hid (¬a.q=[]):=Lib.hid (fun e=>hq (List.length_eq_zero_iff.2 e));clear hq
   first
   | have qq1w:=qq1w
     obtain rfl:OK=false:=by rw[Bz.out];simp[okA,zy,ag0,agN,agS,agX,agQ,agX2,xd0,cF.out,HN.out,HX.out,HQ.out]
   | have qq1v:=qq1v
     obtain rfl:OK=false:=by rw[Bz.out];simp[okA,zy,ag0,agN,agS,agX,agQ,agX2,xd0,cF.out,HN.out,HX.out,HQ.out]
   | obtain rfl:OK=false:=by rw[Bz.out];simp[okA,zy,ag0,agN,agS,agX,agQ,agX2,xd0,cF.out,HS.out,HX.out,HQ.out]
   exact Z4l_
  have mU:=fun x y=>run_eqGuard_agg (P:=prog) w1 .neq 73 x y #[.int .u32 (a.x.fmt:Int),.string (str a.x.glob),.string (str a.x.bran)] #[.int .u32 0,.string ⟨#[]⟩,.string ⟨#[]⟩] yw
  have hne:∀w,(binOp .neq 73 (.agg #[.int .u32 (a.x.fmt:Int),.string (str a.x.glob),.string (str a.x.bran)]) (.agg #[.int .u32 0,.string ⟨#[]⟩,.string ⟨#[]⟩])).run prog w= .ok (.bool true) w:=fun w=>by
   have:=yU a.x xd0 w;rw[decide_eq_false hx]at this;exact this
  have HX:Hid (¬a.x=⟨0,[],[]⟩):=Lib.hid hx;clear hx
  first
  | have qq1w:=qq1w
    obtain rfl:OK=false:=by rw[Bz.out];simp[okA,zy,ag0,agN,agS,agX,agQ,agX2,xd0,cF.out,HN.out,HX.out]
  | have qq1v:=qq1v
    obtain rfl:OK=false:=by rw[Bz.out];simp[okA,zy,ag0,agN,agS,agX,agQ,agX2,xd0,cF.out,HN.out,HX.out]
  | obtain rfl:OK=false:=by rw[Bz.out];simp[okA,zy,ag0,agN,agS,agX,agQ,agX2,xd0,cF.out,HS.out,HX.out]
  exact Z4l_
 first
 | have qq1w:=qq1w
   (have gn:((a.n:Int)!=0)=true:=by simp;omega);have HN:=Lib.hid hn;clear hn
   obtain rfl:OK=false:=by rw[Bz.out];simp[okA,zy,ag0,agN,agS,agX,agQ,agX2,xd0,cF.out,HN.out]
 | have qq1v:=qq1v
   (have gn:((a.n:Int)!=0)=true:=by simp;omega);have HN:=Lib.hid hn;clear hn
   obtain rfl:OK=false:=by rw[Bz.out];simp[okA,zy,ag0,agN,agS,agX,agQ,agX2,xd0,cF.out,HN.out]
 | have gs:((str a.s).toList != [])=true:=by rw[zl];simpa using hs
   (have sG:(str a.s).toList.isEmpty=false:=by rw[zl];simpa using hs);have HS:=Lib.hid hs;clear hs;obtain rfl:OK=false:=by rw[Bz.out];simp[okA,zy,ag0,agN,agS,agX,agQ,agX2,xd0,cF.out,HS.out]
 exact Z4l_):p:=h
theorem Z50_(h:p:=by
 go_wp2_with(with_reducible refine h_A ?_);go_ret3;rw[HE.out.1,HE.out.2,HX.out]
 exact⟨none,0,rfl,Own.none_ _ _ _ _,Hc⟩):p:=h
theorem Z3w_(h:p:=by
 first
 | have qqhv:=qqhv
   have M6:((N:Int) % 8 !=0)=true:=by simp;omega
   have hx:zO b=5:=by rw[uS.out,if_pos (.inl h8)]
 | have Fm:(rest.length:Int)<(N:Int):=by omega
   have hx:zO b=4:=by have:=Nf.out;rw[uS.out,if_neg Wq,if_pos Wq]
 have HE:=Lib.hid (xZ hx Wq);have HX:=Lib.hid hx;first|(have qqhv:=qqhv;clear hx h8 hQ)|(clear hx h8)
 exact Z50_):p:=h
theorem Z7_(h:p:=by
 have hl:=RdB.length hr;by_cases h2:b.length<2
 ·have hx:zO b=4:=by rw[zO,if_pos h2]
  have HE:=Lib.hid (xZ hx Wq);have HX:=Lib.hid hx;clear hx;have hm:mnum b false 2=(0,[],true):=Yq (x:=2) Wq h2;first|(have qq25:=qq25;go_enter func161,ntmps161)|(go_enter func140,ntmps140)
  go_wp2_with(with_reducible refine h_A ?_)
  first
  | have qq25:=qq25
    refine(qC A n c b w hr Wq).mono ?_;rintro e w1 ⟨rb,vb,rfl,LF,ig,iM,Ha⟩
    have lU:=yk iM 2 Wq Wq
  | refine(yZ A n c b w hr Wq).mono ?_
    rintro e w1 ⟨vb,rfl,ig,iM,Ha⟩;have lU:=yG iM 2 Wq Wq
  rw[hm]at lU;go_wp2_with(with_reducible refine h_A ?_);refine lU.mono ?_;rintro e w2 ⟨rfl,Bs,Hm⟩;have Hc:=Ha.grown Hm Ha.size Wx
  first
  | have qq25:=qq25
    go_wp2_with(with_reducible refine h_A ?_);refine(yD Bs).mono ?_
    (rintro e w3 ⟨rfl,rfl⟩)
  | obtain⟨A9,n9,c9,q0,q1,_⟩:=Bs
  exact Z50_
 have hm:mnum b false 2=(unbe (b.take 2),b.drop 2,false):=vI (x:=2) Wq Wq;have hN:getN b<65536:=xY;have Lb:unbe (b.take 2)=getN b:=rfl;rw[Lb]at hm;have tn:(b.drop 2).length=b.length-2:=by simp
 have uS:Hid (zO b=if getN b % 8≠0∨1000<getN b / 8 then 5 else if b.length<2+getN b then 4 else if zV (yl (getN b / 8) (b.drop 2))=true then 0 else 5):=Lib.hid (by rw[zO,if_neg h2]);have IU:Hid (zO b=0→xN b=yl (getN b / 8) (b.drop 2)∧qu b=getN b+2):=Lib.hid (fun h=>by unfold xN qu;rw[h];simp);first|(have qq25:=qq25;go_enter func161,ntmps161)|(go_enter func140,ntmps140)
 go_wp2_with(with_reducible refine h_A ?_)
 first
 | have qq25:=qq25
   refine(qC A n c b w hr Wq).mono ?_;rintro e w1 ⟨rb,vb,rfl,LF,ig,iM,Ha⟩
   have lU:=yk iM 2 Wq Wq
 | refine(yZ A n c b w hr Wq).mono ?_
   rintro e w1 ⟨vb,rfl,ig,iM,Ha⟩;have lU:=yG iM 2 Wq Wq
 rw[hm]at lU;generalize getN b=N at*;generalize dj:b.drop 2=rest at*;have cX:b.length=rest.length+2:=by omega
 have HDL:=Lib.hid tn;clear tn;clear hm Lb;have hwN:IntKind.i64.wrap ((N:Nat):Int)=(N:Int):=IntWalk.i64_in _ ⟨by omega,by omega⟩;go_wp2_with(with_reducible refine h_A ?_);refine lU.mono ?_;rintro e w2 ⟨rfl,Bs,Hm⟩;have Hc:=Ha.grown Hm Ha.size Wx;have ep:w1.heap.size≤w2.heap.size:=Hm.size;clear Hm lU iM;have tS:=Lib.hid dj;clear dj;have Nf:=Lib.hid cX;clear cX;obtain⟨Q,hQ⟩:∃Q,Q=N / 8:=⟨_,rfl⟩
 first|(have qq25:=qq25;have oe:(N:Int) / 8=(Q:Int):=by omega)|(skip)
 rw[←hQ]at uS IU
 first
 | have qq25:=qq25
   go_wp2_with(with_reducible refine h_A ?_);refine(yD Bs).mono ?_
   (rintro e w3 ⟨rfl,rfl⟩)
 | have SU:=Bs
   obtain⟨A9,n9,c9,q0,q1,_,_,qr,_⟩:=SU;have hl9:=RdB.length qr;subst hl9
 by_cases h8:N % 8=0
 ·have M6:((N:Int) % 8 !=0)=false:=by simp;omega
  by_cases hk:1000<Q
  ·(first|(have qq25:=qq25;have Rx:(1000:Int)<(Q:Int):=by omega)|(have Rx:(8000:Int)<(N:Int):=by omega));(have hx:zO b=5:=by rw[uS.out,if_pos (.inr hk)]);have HE:=Lib.hid (xZ hx Wq);have HX:=Lib.hid hx;clear hx hQ h8;exact Z50_
  first|(have qq25:=qq25;have Rx:decide ((1000:Int)<(Q:Int))=false:=by simp;omega)|(have Rx:decide ((8000:Int)<(N:Int))=false:=by simp;omega)
  have M5:=Lib.hid (show N=8*Q by omega);clear hQ
  first
  | have qq25:=qq25
    go_wp2_with(with_reducible refine h_A ?_);refine(yN Bs).mono ?_
    (rintro e w4 ⟨rfl,rfl⟩)
  | skip
  by_cases fp:rest.length<N
  ·exact Z3w_
  have Fm:¬(rest.length:Int)<(N:Int):=by omega
  have uT:Hid (zO b=if zV (yl Q rest)=true then 0 else 5):=Lib.hid (by have:=Nf.out;rw[uS.out,if_neg Wq,if_neg Wq]);clear h8;go_wp2_with(with_reducible refine h_A ?_)
  first
  | have qq25:=qq25
    go_loopw [31,7] (fun s v wr=>∃(k c2:Nat) (A2:Option Addr) (out:List Sp),k≤Q∧s= .int .i64 k∧v= .slice A2 out.length c2∧out=yl k rest∧OwnS wr w1.heap.size A2 out.length c2 out∧Rdr (fun g=>w.heap.size≤g∧g<w1.heap.size) wr (.pointer (some ⟨rb,0,none⟩)) (some vb) (rest.drop (8*k)) false∧w1.heap.size≤wr.heap.size∧Below w.heap.size w wr) (fun s _ _=>Q-(intOf s).toNat)
    case atStart=>exact⟨0,0,none,[],by omega,rfl,rfl,by simp[yl],Own.none_ _ _ _ _,by simpa using Bs,ep,Hc⟩
  | go_loopw [8,7] (fun s v wr=>∃(k k8 c2:Nat) (A2:Option Addr) (out:List Sp),k≤Q∧s= .int .i64 k8∧k8=8*k∧v= .slice A2 out.length c2∧out=yl k rest∧OwnS wr w1.heap.size A2 out.length c2 out∧Qrd (fun g=>w.heap.size≤g∧g<w1.heap.size) wr vb (rest.drop (8*k)) false∧w1.heap.size≤wr.heap.size∧Below w.heap.size w wr) (fun s _ _=>8*Q-(intOf s).toNat)
    case atStart=>exact⟨0,0,0,none,[],by omega,rfl,rfl,rfl,by simp[yl],Own.none_ _ _ _ _,by simpa using Bs,ep,Hc⟩
  first
  | have qq25:=qq25
    clear Bs ep Hc
    obtain⟨k,c2,A2,out,hk',rfl,rfl,cO,ho,hR,hz,bP⟩:=hrel
  | clear Bs ep Hc q0 q1 qr
    obtain⟨k,k8,c2,A2,out,hk',rfl,rl,rfl,cO,ho,hR,hz,bP⟩:=hrel;have sJ:=M5.out;have aq:=Lib.hid rl;(have Af:(k8:Int)<(N:Int)↔k<Q:=by omega);clear sJ
  have bI:out.length=k:=by rw[cO,ji]
  by_cases hlt:k<Q
  ·first
   | have qq25:=qq25
     have Sl:(k:Int)<(Q:Int):=by omega
   | have Sl:(k8:Int)<(N:Int):=Af.2 hlt
     (have haj:k8≤8000:=by omega);clear rl Af
   have sJ:=M5.out;(first|(have qq25:=qq25;have eJ:=yk hR 4 Wq Wq)|(have eJ:=yG hR 4 Wq Wq));have gF:mnum (rest.drop (8*k)) false 4=(unbe ((rest.drop (8*k)).take 4),(rest.drop (8*k)).drop 4,false):=vI (x:=4) Wq Hz;rw[gF]at eJ
   have dZ:mnum ((rest.drop (8*k)).drop 4) false 4=(unbe ((rest.drop (8*k+4)).take 4),rest.drop (8*(k+1)),false):=by
    have:=vI (l:=rest.drop (8*k+4)) (x:=4) Wq Hz;rw[List.drop_drop];exact this.trans (by rw[List.drop_drop,show 8*k+4+4=8*(k+1) by omega])
   have RT:Hid (yl (k+1) rest=out++ [(unbe ((rest.drop (8*k)).take 4),unbe ((rest.drop (8*k+4)).take 4))]):=Lib.hid (by rw[vj,cO]);have dE:unbe ((rest.drop (8*k)).take 4)<4294967296:=xY;have ff:unbe ((rest.drop (8*k+4)).take 4)<4294967296:=xY;(have gX:∀g,blk A2=some g→¬(w.heap.size≤g∧g<w1.heap.size):=fun g hg h=>by have:=(ho.blk_lt hg).1;omega);(first|(have qq25:=qq25;have GN:w.heap.size≤vb∧vb<w1.heap.size:=hR.inF rfl)|(have GN:w.heap.size≤vb∧vb<w1.heap.size:=hR.inF));(have MH:∀g,blk A2=some g→some vb≠some g:=fun g hg e=>by injection e with e;subst e;exact gX _ hg GN);clear cO sJ gF;generalize unbe ((rest.drop (8*k)).take 4)=v1 at*;generalize unbe ((rest.drop (8*k+4)).take 4)=v2 at*;have ft:IntKind.u32.wrap ((v1:Nat):Int)=(v1:Int):=IntWalk.u32_in _ ⟨by omega,by omega⟩;have nU:IntKind.u32.wrap ((v2:Nat):Int)=(v2:Int):=IntWalk.u32_in _ ⟨by omega,by omega⟩;have nS:=Lib.hid bI;(have iX:out.length≤1000:=by omega);clear bI;go_wp2_with(with_reducible refine h_A ?_);refine eJ.mono ?_;rintro e w5 ⟨rfl,eo,H9⟩;have bw:=bP.grown H9 bP.size Wx;have ct:OwnS w5 w1.heap.size A2 out.length c2 out:=vi ho H9 MH;have fT:w1.heap.size≤w5.heap.size:=Nat.le_trans hz H9.size;(first|(have qq25:=qq25;have eO:=yk eo 4 Wq Wq)|(have eO:=yG eo 4 Wq Wq));rw[dZ]at eO;clear eJ H9 dZ;go_wp2_with(with_reducible refine h_A ?_);refine eO.mono ?_;rintro e w6 ⟨rfl,bE,bz⟩;have bG:=bw.grown bz bw.size Wx;have bR:OwnS w6 w1.heap.size A2 out.length c2 out:=vi ct bz MH;have fc:w1.heap.size≤w6.heap.size:=Nat.le_trans fT bz.size;clear eO bz eo ct ho hR;go_wp2_with(with_reducible refine h_A ?_);refine zc (VL slS underlying74 rfl rfl rfl rfl rfl v1 v2 rfl rfl bR Wq fc ?_);intro A7 c7 w7 dI H7 _ Bn;have BJ:=bE.kept H7 gX;have uv:w1.heap.size≤w7.heap.size:=Nat.le_trans fc H7.size;have dU:=bG.trans (Bn.mono (by have:=Ha.size;omega));go_wp2_with(with_reducible refine h_A ?_);have bI:=nS.out
   first
   | have qq25:=qq25
     exact⟨⟨k+1,c7,A7,out++ [(v1,v2)],by omega,by go_num,by simp,RT.out.symm,by simpa using dI,BJ,uv,dU⟩,by simp[intOf];omega⟩
   | have rl:=aq.out
     have sJ:=M5.out;exact⟨⟨k+1,k8+8,c7,A7,out++ [(v1,v2)],by omega,by go_num,by omega,by simp,RT.out.symm,by simpa using dI,BJ,uv,dU⟩,by simp[intOf];omega⟩
  obtain rfl:k=Q:=by omega
  first
  | have qq25:=qq25
    have Sl:decide ((k:Int)<(k:Int))=false:=by simp
  | have Sl:¬(k8:Int)<(N:Int):=fun h=>absurd (Af.1 h) Wq
    clear rl Af
  have bJ:=kM k rest;rw[←cO]at bJ;first|(have qq25:=qq25;have B1:=Xv A2 out.length c2 out _ wr ho.rd bJ (Nat.le_refl _) Wq)|(have B1:=Yr A2 out.length c2 out _ wr ho.rd bJ (Nat.le_refl _) Wq)
  have HO:=Lib.hid cO;have Hf:=Ha.size
  cases so:zV out
  ·rw[so]at B1;(have hx:zO b=5:=by rw[uT.out,←HO.out,so];rfl);have HE:=Lib.hid (xZ hx Wq);have HX:=Lib.hid hx;clear hx cO so bI;go_wp2_with(with_reducible refine h_A ?_);refine B1.mono ?_;rintro e w8 ⟨rfl,Bf⟩;have Bl:=bP.trans (Bf.mono bP.size);go_wp2_with(with_reducible refine h_A ?_);go_ret3;rw[HE.out.1,HE.out.2,HX.out];exact⟨none,0,rfl,Own.none_ _ _ _ _,Bl⟩
  rw[so]at B1;have hx:zO b=0:=by rw[uT.out,←HO.out,so];rfl
  have rC:=IU.out hx;rw[←HO.out]at rC;have HG:=Lib.hid rC;have HX:=Lib.hid hx;have nU:IntKind.i64.wrap ((N:Int)+2)=((N+2:Nat):Int):=by rw[IntWalk.i64_in _ ⟨by omega,by omega⟩];omega
  clear hx cO so rC bI;go_wp2_with(with_reducible refine h_A ?_);refine B1.mono ?_;rintro e w8 ⟨rfl,Bf⟩;have Bl:=bP.trans (Bf.mono bP.size);have dP:=Yp ho Bf;have dt:=dP.base_le Hf;go_wp2_with(with_reducible refine h_A ?_);go_ret3;rw[HG.out.1,HG.out.2,HX.out];exact⟨A2,c2,by first|rfl|simp,dt,Bl⟩
 have qqhv:=()
 exact Z3w_):p:=h
theorem Z4b_(h:p:=by
 have cp:=lG.out w3 Hh;go_wp2_with(with_reducible refine h_B ?_);refine cp.mono ?_;rintro e w4 ⟨rfl,Hn⟩;have Bq:=zh Bv Hn;have bw:=Hh.trans (Hn.mono (Nat.le_trans Hf Hh.size));have Br:KB w w4 (blk A):=⟨Nat.le_trans BQ.1 Hn.size,fun g hg hne=>(Hn.block g (Nat.lt_of_lt_of_le hg BQ.1)).trans (BQ.2 g hg hne)⟩;clear Hw Hv Bv Hh Hn BQ cp;clear x0 x1 x2 x3 x4 x5 x6 x7 x8 x9 xA xB;clear y0 y1 y2 y3 y4 y5 y6 y7 y8 y9 yA yB;go_wp2_with(with_reducible refine h_A ?_);go_ret2
 exact⟨A3,_,c3,rfl,bw,Br,fun _=>⟨by simp[cW],(by have:=Bq;rw[←List.map_append]at this;exact this)⟩⟩):p:=h
theorem Z8_(h:p:=by
 first
 | have qq28:=qq28
   (have hM:puts [] a.n 4=be 4 a.n:=by unfold puts;rw[if_pos WJ];rfl);have mW:(be 4 a.n).length≤4:=by simp[be]
   have B6:=fun W=>yP none 0 0 [] a.n 4 W (Rd.nil _ _ _ _ WX _) Wq Wq
 | have qq27:=qq27
   (have hM:puts [] a.n 2=be 2 a.n:=by unfold puts;rw[if_pos WJ];rfl);have mW:(be 2 a.n).length≤4:=by simp[be]
   have B6:=fun W=>yP none 0 0 [] a.n 2 W (Rd.nil _ _ _ _ WX _) Wq Wq
 | have hM:puts [] a.n 1=be 1 a.n:=by unfold puts;rw[if_pos WJ];rfl
   (have mW:(be 1 a.n).length≤4:=by simp[be]);have B6:=fun W=>yP none 0 0 [] a.n 1 W (Rd.nil _ _ _ _ WX _) Wq Wq
 rw[hM]at B6;have nE:=fun W=>run_makeMap (P:=prog) 186 W
 have cp:∀W,Below base w W→Calls prog 106 #[.agg #[.bool a.is,.int .u64 (a.n:Int),.string (str a.s),.int .u32 (a.x.fmt:Int),.string (str a.x.glob),.string (str a.x.bran),.slice h.A a.q.length h.c,.int .u8 (a.v.kind:Int),.int .u64 (a.v.n:Int),.string (str a.v.s),.slice h.h.A1 a.v.keys.length h.h.c1,.slice h.h.A2 a.v.list.length h.h.c2],.agg #[.bool true,.int .u64 (a.n:Int),.string ⟨#[]⟩,.int .u32 0,.string ⟨#[]⟩,.string ⟨#[]⟩,.slice none 0 0,.int .u8 0,.int .u64 0,.string ⟨#[]⟩,.slice none 0 0,.slice none 0 0]] W (fun e w'=>e= .returned (.bool (zy a (agN a)))∧Below W.heap.size W w'):=fun W hW=>xJ a (agN a) h ah0 W ((ha.under hW).mono (fun g hg=>Nat.lt_of_lt_of_le hg (Nat.le_trans Hf hW.size))) (((RA.ofN ha:RA w (fun g=>g<base) (agN a) ah0).under hW).mono (fun g hg=>Nat.lt_of_lt_of_le hg (Nat.le_trans Hf hW.size)))
 generalize AL:zy a (agN a)=sr at cp;have lG:=Lib.hid cp;clear cp;first|(have qq28:=qq28;generalize be 4 a.n=M at*)|(have qq27:=qq27;generalize be 2 a.n=M at*)|(generalize be 1 a.n=M at*)
 clear hM;obtain⟨ab,rb,v0,dV,eC,bo,bh,bU,Hy⟩:=qQ w #[.bool a.is,.int .u64 (a.n:Int),.string (str a.s),.int .u32 (a.x.fmt:Int),.string (str a.x.glob),.string (str a.x.bran),.slice h.A a.q.length h.c,.int .u8 (a.v.kind:Int),.int .u64 (a.v.n:Int),.string (str a.v.s),.slice h.h.A1 a.v.keys.length h.h.c1,.slice h.h.A2 a.v.list.length h.h.c2] #[.bool true,.int .u64 0,.string ⟨#[]⟩,.int .u32 0,.string ⟨#[]⟩,.string ⟨#[]⟩,.slice none 0 0,.int .u8 0,.int .u64 0,.string ⟨#[]⟩,.slice none 0 0,.slice none 0 0] 80;have Bo:w.heap.size≤ab:=by omega
 have tL:ab<rb:=by omega
 have Bb:∀g,blk A=some g→g<ab:=fun g hg=>by have:=(Hl.blk_lt hg).2;omega
 have eW:∀g,blk A=some g→base≤g:=fun g hg=>(Hl.blk_lt hg).1
 have H4:=zh Hl Hy;have HU:Below w.heap.size w v0:=Hy;have cg:=bU.lt;have fe:=cg;have cW:l.length=n:=RdB.length Hl.rd;unfold agV;have HA:=Lib.hid ha;clear ha;go_enter func71,ntmps71;go_upto_region 2 with fail;rw[←eC,←dV,←bo];clear dV eC bo Hl Hy;have Hp:=World.ownsMap_made v0 prog 5 (plainElem (H:=Unit) prog 3);have bh:=bh.alloc (.map #[] 0);have bU:=bU.alloc (.map #[] 0);have H4:=H4.alloc (.map #[] 0);have HU:=HU.alloc HU.size (.map #[] 0);go_wp2_with(with_reducible refine h_M ?_);obtain⟨mb,cw⟩:∃m,m=v0.heap.size:=⟨_,rfl⟩
 rw[←cw]at Hp cg ⊢;clear cw nE;generalize(v0.alloc (.map #[] 0))=v1 at*;refine zc (zm (H:=Unit) _ rfl _ _ _ 186 rfl 5 3 zC underlying186 (plainElem (H:=Unit) prog 3) _ _ _ rfl Hp WX _ _ (.int .u8 110) rfl rfl (Maps.keyOf_int_mk underlying5 WJ) (.lit (.int .i64 1)) [] (plainElem_int underlying3 WJ) ?_);intro v2 Hr bM;have bh:=bh.grown bM (sne Wq);have bU:=bU.grown bM (sne Wq);have H4:=zk H4 bM ux;have HU:=HU.grown bM HU.size Wx;clear Hp bM;have Hp:=Hr;clear Hr;go_wp2_with(with_reducible refine h_M ?_);refine zc (zm (H:=Unit) _ rfl _ _ _ 186 rfl 5 3 zC underlying186 (plainElem (H:=Unit) prog 3) _ _ _ rfl Hp WX _ _ (.int .u8 119) rfl rfl (Maps.keyOf_int_mk underlying5 WJ) (.lit (.int .i64 2)) [] (plainElem_int underlying3 WJ) ?_);intro v3 Hr bM;have bh:=bh.grown bM (sne Wq);have bU:=bU.grown bM (sne Wq);have H4:=zk H4 bM ux;have HU:=HU.grown bM HU.size Wx;clear Hp bM;have Hp:=Hr;clear Hr;go_wp2_with(with_reducible refine h_M ?_);refine zc (zm (H:=Unit) _ rfl _ _ _ 186 rfl 5 3 zC underlying186 (plainElem (H:=Unit) prog 3) _ _ _ rfl Hp WX _ _ (.int .u8 100) rfl rfl (Maps.keyOf_int_mk underlying5 WJ) (.lit (.int .i64 4)) [] (plainElem_int underlying3 WJ) ?_);intro v4 Hr bM;have bh:=bh.grown bM (sne Wq);have bU:=bU.grown bM (sne Wq);have H4:=zk H4 bM ux;have HU:=HU.grown bM HU.size Wx;clear Hp bM
 first
 | have qq28:=qq28
   obtain⟨cc,bu,eY,_⟩:=Hr.lookup_int (t:=186) zC underlying186 underlying3 (zeroValue3 _) (key:=.int .u8 100) (kl:=.int .u8 100) (Maps.keyOf_int_mk underlying5 WJ)
   have dk:DataW.lit (H:=Unit) (.int .i64 4)= .lit (.int .i64 cc):=Eq.trans Wj eY
 | have qq27:=qq27
   obtain⟨cc,bu,eY,_⟩:=Hr.lookup_int (t:=186) zC underlying186 underlying3 (zeroValue3 _) (key:=.int .u8 119) (kl:=.int .u8 119) (Maps.keyOf_int_mk underlying5 WJ)
   have dk:DataW.lit (H:=Unit) (.int .i64 2)= .lit (.int .i64 cc):=Eq.trans Wj eY
 | obtain⟨cc,bu,eY,_⟩:=Hr.lookup_int (t:=186) zC underlying186 underlying3 (zeroValue3 _) (key:=.int .u8 110) (kl:=.int .u8 110) (Maps.keyOf_int_mk underlying5 WJ)
   have dk:DataW.lit (H:=Unit) (.int .i64 1)= .lit (.int .i64 cc):=Eq.trans Wj eY
 injection dk with dk
 injection dk with _ dk
 subst dk;clear eY;have x0:=bh.c0;have x1:=bh.c1;have x2:=bh.c2;have x3:=bh.c3;have x4:=bh.c4;have x5:=bh.c5;have x6:=bh.c6;have x7:=bh.c7;have x8:=bh.c8;have x9:=bh.c9;have xA:=bh.c10;have xB:=bh.c11;go_wp2_with(with_reducible refine h_M ?_);refine(B6 _).mono ?_;rintro e w1 ⟨A1,c1,rfl,cV,By⟩;have Hs:=bh.below By;have dH:=bU.below By;have BM:=zh H4 By;have Ha:=HU.trans (By.mono HU.size);have fe:rb<v4.heap.size:=bU.lt;clear bh bU H4 HU By B6 bu Hr;clear x0 x1 x2 x3 x4 x5 x6 x7 x8 x9 xA xB;have x0:=Hs.c0;have x1:=Hs.c1;have x2:=Hs.c2;have x3:=Hs.c3;have x4:=Hs.c4;have x5:=Hs.c5;have x6:=Hs.c6;have x7:=Hs.c7;have x8:=Hs.c8;have x9:=Hs.c9;have xA:=Hs.c10;have xB:=Hs.c11;go_wp2_with(with_reducible refine h_B ?_);refine zc (zn (v:=.int .u64 (a.n:Int)) (vs:=[.int .u64 (a.n:Int)]) rfl rfl rfl rfl dH rfl Wj Wz UZ #[.bool true,.int .u64 (a.n:Int),.string ⟨#[]⟩,.int .u32 0,.string ⟨#[]⟩,.string ⟨#[]⟩,.slice none 0 0,.int .u8 0,.int .u64 0,.string ⟨#[]⟩,.slice none 0 0,.slice none 0 0] Wz ?_);intro w2 Ht Hm _;have Hu:=Hs.grown Hm (sne Wq);have Bj:=zk BM Hm ux;have bW:=zk cV Hm (fun g hg e=>by injection e with e;have:=(cV.blk_lt hg).1;omega);have Hc:=Ha.grown Hm Ha.size Wx;have cm:=Nat.le_trans Hf Hc.size;clear Hs dH BM cV Hm Ha;clear x0 x1 x2 x3 x4 x5 x6 x7 x8 x9 xA xB;have x0:=Hu.c0;have x1:=Hu.c1;have x2:=Hu.c2;have x3:=Hu.c3;have x4:=Hu.c4;have x5:=Hu.c5;have x6:=Hu.c6;have x7:=Hu.c7;have x8:=Hu.c8;have x9:=Hu.c9;have xA:=Hu.c10;have xB:=Hu.c11;have y0:=Ht.c0;have y1:=Ht.c1;have y2:=Ht.c2;have y3:=Ht.c3;have y4:=Ht.c4;have y5:=Ht.c5;have y6:=Ht.c6;have y7:=Ht.c7;have y8:=Ht.c8;have y9:=Ht.c9;have yA:=Ht.c10;have yB:=Ht.c11;go_wp2_with(with_reducible refine h_B ?_);refine zc (yc slB rfl rfl rfl rfl Bj bW.rd (zM _) Wq Hj cm ?_);intro A3 c3 w3 Bv H6 bX;have Hw:=Hu.grown H6 Nj;have Hv:=Ht.grown H6 Nj;have Hh:=(Hc.mono Hf).grown H6 cm (fun g hg=>eW g hg);have BQ:KB w w3 (blk A):=⟨Nat.le_trans Hc.size H6.size,fun g hg hne=>(H6.block g (Nat.lt_of_lt_of_le hg Hc.size) (fun e=>hne e.symm)).trans (Hc.block g hg)⟩;clear x0 x1 x2 x3 x4 x5 x6 x7 x8 x9 xA xB;clear y0 y1 y2 y3 y4 y5 y6 y7 y8 y9 yA yB;clear Hu Ht Bj bW H6 Hc bX;have x0:=Hw.c0;have x1:=Hw.c1;have x2:=Hw.c2;have x3:=Hw.c3;have x4:=Hw.c4;have x5:=Hw.c5;have x6:=Hw.c6;have x7:=Hw.c7;have x8:=Hw.c8;have x9:=Hw.c9;have xA:=Hw.c10;have xB:=Hw.c11;have y0:=Hv.c0;have y1:=Hv.c1;have y2:=Hv.c2;have y3:=Hv.c3;have y4:=Hv.c4;have y5:=Hv.c5;have y6:=Hv.c6;have y7:=Hv.c7;have y8:=Hv.c8;have y9:=Hv.c9;have yA:=Hv.c10;have yB:=Hv.c11
 exact Z4b_):p:=h
theorem Z44_(h:p:=by
 have h1:=ta.out;rw[qs,Bool.and_eq_true,List.all_eq_true]at h1;have h2:=h1.1 _ (List.getElem_mem mo);unfold jd at h2;simp only[Bool.and_eq_true,decide_eq_true_eq]at h2
 exact h2.1.2):p:=h
theorem Z4x_(h:p:=by
 have h:=HC.out;rw[List.drop_eq_nil_of_le (show v.list.length≤i by rw[←HN.out];omega),xX,List.append_nil]at h
 exact h):p:=h
theorem Z9_(h:p:=by
 subst hk
 first
 | have qq2c:=qq2c
   generalize dr:(((169:Nat):Int))=k at*
   obtain rfl:k=169:=by rw[←dr];rfl
 | generalize dr:(((168:Nat):Int))=k at*
   obtain rfl:k=168:=by rw[←dr];rfl
 clear dr;have c0:=hX.c0;have c1:=hX.c1;have c2:=hX.c2;have c3:=hX.c3;have c4:=hX.c4;go_enter func118,ntmps118;go_upto_region 1 with fail;rw[←Hg,←Hi];clear Hg Hi;go_upto_region 2 with fail;have Hk:=hX.below Hc;first|(have qq2c:=qq2c;generalize(w1.alloc (.cells #[.int .u8 169] 5))=w2 at*)|(generalize(w1.alloc (.cells #[.int .u8 168] 5))=w2 at*)
 have hB:=Ha.trans (Hc.mono BZ);have ff:=dE.up Hc;have cm:=Hc.size;generalize dc:w1.heap.size=lb at*;have wL:Hid (xb≠lb):=Lib.hid mQ;have DI:=Lib.hid dc;clear c0 c1 c2 c3 c4 hX dE dc Ha;have c0:=Hk.c0;have c1:=Hk.c1;have c2:=Hk.c2;have c3:=Hk.c3;have c4:=Hk.c4;go_wp2_with(with_reducible refine h_A ?_);first|(have qq2c:=qq2c;have eU:Hid (R=[UInt8.ofNat 169]++be 4 INN.length++INN):=Lib.hid (by rw[HR.out];simp[yu]))|(have eU:Hid (R=[UInt8.ofNat 168]++be 4 INN.length++INN):=Lib.hid (by rw[HR.out];simp[yu]))
 have E3:INN.length≤100000000:=by have:=hN;rw[eU.out]at this;simp[List.length_append,zr]at this;omega
 have lu:R.length=5+INN.length:=by rw[eU.out];simp[List.length_append,zr];omega
 have BE:=fun{i:Nat} (hi:i<v.list.length)=>ff.elem hi
 have rY:=fun{i:Nat} (hi:i<v.keys.length)=>ff.key hi
 simp only at BE rY;obtain⟨N,tq⟩:∃N,N=v.list.length:=⟨_,rfl⟩
 rw[←tq]at Hk v9 c0 c1 c2 c3 c4 ⊢;have HN:=Lib.hid tq
 first
 | have qq2c:=qq2c
   have D5:Hid (be 4 N++yy false v.keys v.list=INN):=Lib.hid (by rw[tW.out,innB,t3.out,tq];rfl)
 | have D5:Hid (be 4 N++yy true v.keys v.list=INN):=Lib.hid (by rw[tW.out,innB,t3.out,tq];rfl)
   obtain⟨Gc,rZ⟩:=(by first|exact Nw.out rfl|exact Nw.out trivial:v.keys.length=v.list.length∧_=true);rw[←tq]at Gc;have EX:=Lib.hid Gc;have ta:=Lib.hid rZ;clear Gc rZ
 have iY:=Lib.hid lu;have hp:=yd N 4 w2 Wq Wq;have Ap:(be 4 N).length=4:=zr 4 N;generalize be 4 N=P0 at*;have SG:lb<w2.heap.size:=(bZ.blk_lt (g:=lb) rfl).2;clear tq lu ff mu oK hN cm lX;refine hp.mono ?_;rintro e w4 ⟨A4,my,rfl,Bq,Hn⟩;have Bg:=Hk.below Hn;have sF:OwnB w4 w2.heap.size A4 4 my P0:=Bq;clear hp c0 c1 c2 c3 c4 Bq Ap;have c0:=Bg.c0;have c1:=Bg.c1;have c2:=Bg.c2;have c3:=Bg.c3;have c4:=Bg.c4;go_wp2_with(with_reducible refine h_A ?_);clear c0 c1 c2 c3 c4 Bg
 first
 | have qq2c:=qq2c
   go_loopw [4,5] (fun s4 s5 wr=>∃(i ni ci:Nat) (Ai:Option Addr) (li:List UInt8),i≤N∧s4= .slice Ai ni ci∧s5= .int .i64 i∧OwnB wr w2.heap.size Ai ni ci li∧Below w2.heap.size w2 wr∧Hid (li++yy false (v.keys.drop i) (v.list.drop i)=INN)) (fun _ s5 _=>N-(RowKit.intOf s5).toNat)
 | go_loopw [4,5] (fun s4 s5 wr=>∃(i ni ci:Nat) (Ai:Option Addr) (li:List UInt8),i≤N∧s4= .slice Ai ni ci∧s5= .int .i64 i∧OwnB wr w2.heap.size Ai ni ci li∧Below w2.heap.size w2 wr∧Hid (li++yy true (v.keys.drop i) (v.list.drop i)=INN)) (fun _ s5 _=>N-(RowKit.intOf s5).toNat)
 case atStart=>exact⟨0,4,my,A4,P0,by omega,rfl,rfl,sF,Hn,Lib.hid D5.out⟩
 clear sF Hn;obtain⟨i,ni,ci,Ai,li,hi,rfl,rfl,iu,bP,HC⟩:=hrel;have Bg:=Hk.below bP;have bQ:ni≤INN.length:=by have:=RdB.length iu.rd;rw[←HC.out,List.length_append];omega
 have ma:=bP.size;have c0:=Bg.c0;have c1:=Bg.c1;have c2:=Bg.c2;have c3:=Bg.c3;have c4:=Bg.c4;by_cases hlt:i<N
 ·have g1:(i:Int)<(N:Int):=by omega
  have BB:i<v.list.length:=by rw[←HN.out];exact hlt
  obtain⟨b,off,hx,rfl,ek,I9⟩:=BE BB;have m4:mayV zJ v.list[i]=true:=List.all_eq_true.1 wU.out _ (List.getElem_mem BB);have bO:=IH.out _ (List.getElem_mem BB) hx
  first
  | have qq2c:=qq2c
    obtain⟨k0,k1,k2,k3,k4⟩:=I9 wr bP;have bO:=bO wr (ek.up bP) m4;have HD:Hid (yy false (v.keys.drop i) (v.list.drop i)=vlB v.list[i]++yy false (v.keys.drop (i+1)) (v.list.drop (i+1))):=Lib.hid (Yi BB _ _)
    clear I9 BE rY ek
  | have mo:i<v.keys.length:=by rw[EX.out];exact hlt
    obtain⟨bk,offk,rfl,LW⟩:=rY mo;have HD:Hid (yy true (v.keys.drop i) (v.list.drop i)=((be 1 v.keys[i].length++v.keys[i])++vlB v.list[i])++yy true (v.keys.drop (i+1)) (v.list.drop (i+1))):=Lib.hid (Xu BB mo)
    have bI:v.keys[i].length≤255:=by
     exact Z44_
    have y0:=LW wr bP;clear BE rY
  generalize v.list[i]=x at*
  first
  | have qq2c:=qq2c
    have cL:Hid ((li++vlB x)++yy false (v.keys.drop (i+1)) (v.list.drop (i+1))=INN):=Lib.hid (by rw[←HC.out,HD.out,List.append_assoc]);have LI:ni+(vlB x).length≤INN.length:=by have:=RdB.length iu.rd;rw[←cL.out];simp[List.length_append];omega
    have bO:=bO Wq
  | generalize v.keys[i]=ky at*
    have dD:=zi ky;have cL:Hid ((((li++ [UInt8.ofNat ky.length])++ky)++vlB x)++yy true (v.keys.drop (i+1)) (v.list.drop (i+1))=INN):=Lib.hid (by rw[←HC.out,HD.out];simp[be]);(have LI:ni+1+ky.length+(vlB x).length≤INN.length:=by have:=RdB.length iu.rd;rw[←cL.out];simp[List.length_append];omega);(have oG:Value.int .u8 (ky.length:Int)=u8v (UInt8.ofNat ky.length):=by rw[kT,UInt8.toNat_ofNat'];congr 1;omega);have nm:=QP (size:=1) wr #[.int .u8 (ky.length:Int)] 5 (0,0) 1 1 rfl Wq WX;have hBa:=(Below.refl wr.heap.size wr).alloc (Nat.le_refl _) (.cells #[.int .u8 (ky.length:Int)] 5);(have e8:li.map u8v++ #[Value.int .u8 (ky.length:Int)].toList=(li++ [UInt8.ofNat ky.length]).map u8v:=by simp[oG]);have AW:=zh iu hBa;have nV:=Bg.below hBa;have I0:=bP.trans (hBa.mono ma);have aF:=hBa.size;clear oG;go_wp2_with(with_reducible refine h_A ?_);refine zc (yc slB rfl rfl rfl rfl AW nm nQ Wq Hj Wq ?_);intro A3 q3 w3 Bv H6 _;have sk:=I0.grown H6 I0.size (fun g hg=>by have:=(AW.blk_lt hg).1;omega);have bS:=nV.grown H6 (by intro e;have:=(AW.blk_lt e.symm).1;have:=Hk.lt;omega);have y0:=LW w3 sk;have EZ:=sk.size;rw[e8]at Bv;clear e8 AW nm hBa nV Bg c0 c1 c2 c3 c4 H6 iu;have c0:=bS.c0;have c1:=bS.c1;have c2:=bS.c2;have c3:=bS.c3;have c4:=bS.c4;go_wp2_with(with_reducible refine h_A ?_);refine zc (jC slB underlying9 rfl rfl rfl rfl Bv Wq Wq Wq ?_);intro A4 q4 w4 Bq Ba;have AN:=sk.grown Ba sk.size (fun g hg=>by have:=(Bv.blk_lt hg).1;omega);have Bg:=bS.grown Ba (by intro e;have:=(Bv.blk_lt e.symm).1;have:=Hk.lt;omega);have Py:=AN.size;rw[←List.map_append]at Bq;obtain⟨k0,k1,k2,k3,k4⟩:=I9 w4 AN;have bO:=bO w4 (ek.up AN) m4 Wq
  unfold J2 vlV at bO;generalize vlB x=B at*
  first
  | done
  | have qq2c:=qq2c
  | clear y0 bS Ba Bv c0 c1 c2 c3 c4 I9 ek LW
    have c0:=Bg.c0;have c1:=Bg.c1;have c2:=Bg.c2;have c3:=Bg.c3;have c4:=Bg.c4
  go_wp2_with(with_reducible refine h_A ?_);refine bO.mono ?_;rintro e w5 ⟨A5,c5,rfl,ct,bw⟩
  first
  | have qq2c:=qq2c
    have lR:=zh iu bw
    have t5:=bP.trans (bw.mono ma)
  | have lR:=zh Bq bw
    have t5:=AN.trans (bw.mono Py)
  have gI:=bw.size;first|(have qq2c:=qq2c;clear bO k0 k1 k2 k3 k4 c0 c1 c2 c3 c4 Bg iu)|(clear bO k0 k1 k2 k3 k4 c0 c1 c2 c3 c4 Bg Bq)
  go_wp2_with(with_reducible refine h_A ?_);refine zc (yc slB rfl rfl rfl rfl lR ct.rd (zM _) Wq Hj Wq ?_);intro A6 c6 w6 bR bz _;have FG:=t5.grown bz t5.size (fun g hg=>by have:=(lR.blk_lt hg).1;omega);rw[←List.map_append]at bR;go_wp2_with(with_reducible refine h_A ?_);first|(have qq2c:=qq2c;exact⟨⟨i+1,ni+B.length,c6,A6,li++B,by omega,rfl,by go_num,bR,FG,cL⟩,by simp[RowKit.intOf];omega⟩)|(exact⟨⟨i+1,ni+1+ky.length+B.length,c6,A6,((li++ [UInt8.ofNat ky.length])++ky)++B,by omega,rfl,by go_num,bR,FG,cL⟩,by simp[RowKit.intOf];omega⟩)
 have g1:¬(i:Int)<(N:Int):=by omega
 have gu:li=INN:=by
  exact Z4x_
 subst gu;have BC:li.length=ni:=RdB.length iu.rd;have hp:=yd ni 4 wr Wq Wq;have RZ:=hB.trans (bP.mono hB.size);have iX:=zh bZ bP;first|(have qq2c:=qq2c;have Aw:Hid (R=([UInt8.ofNat 169]++be 4 ni)++li):=Lib.hid (by rw[eU.out,BC]))|(have Aw:Hid (R=([UInt8.ofNat 168]++be 4 ni)++li):=Lib.hid (by rw[eU.out,BC]))
 have Mg:Hid (R.length=1+4+ni):=Lib.hid (by rw[iY.out,BC]);clear BE rY BC;go_wp2_with(with_reducible refine h_A ?_);refine hp.mono ?_;rintro e w8 ⟨A8,c8,rfl,dP,Bf⟩;have lD:=zh iu Bf;have uE:=zh iX Bf;have pF:=Bf.size;have uR:=RZ.trans (Bf.mono Wq);clear hp c0 c1 c2 c3 c4 Bg iu iX;go_wp2_with(with_reducible refine h_A ?_);refine zc (yc slB rfl rfl rfl rfl uE dP.rd (zM _) Wq Hj Wq ?_);intro A9 c9 w9 dt du _;have iS:=uR.grown du uR.size mJ;have Gf:=zk lD du (fun g hg e=>by have h9:some lb=some g:=e;injection h9 with h9;have:=(lD.blk_lt hg).1;omega);have An:=du.size;rw[←List.map_append]at dt;clear lD uE du;go_wp2_with(with_reducible refine h_A ?_);refine zc (yc slB rfl rfl rfl rfl dt Gf.rd (zM _) Wq Hj Wq ?_);intro nG c10 rU eV ed _;have ng:=iS.grown ed iS.size (fun g hg=>by have:=(dt.blk_lt hg).1;omega);rw[←List.map_append,←Aw.out]at eV;go_wp2_with(with_reducible refine h_A ?_);go_ret
 exact⟨nG,c10,by rw[Mg.out];rfl,by rw[Mg.out];exact eV.base_le BZ,ng⟩):p:=h
theorem Za_(h:p:=by
 first
 | have qq2g:=qq2g
   have ej:∀k,k=min n 8→((str (r.take k)).toList !=(str (hdrB.take k)).toList)=false:=fun k e=>by
    have h1:=hr.length;rw[e,Nat.min_eq_left Wq,zl,zl,List.take_of_length_le Wq,←h8];simp
   clear h8
 | have qq2f:=qq2f
   have ej:∀k,k=min n 8→((str (r.take k)).toList !=(str (hdrB.take k)).toList)=true:=fun k e=>by
    have h1:=hr.length;rw[e,zl,zl];simp only[bne_iff_ne,ne_eq];intro h;apply h8;rcases Nat.le_total n 8 with h2|h2
    ·rw[Nat.min_eq_left h2]at h;rw[←h,List.take_of_length_le Wq,List.take_of_length_le Wq]
    rw[Nat.min_eq_right h2]at h;rw[h]
    rw[List.take_of_length_le WJ,List.take_of_length_le nZ]
 | have pn:8≤n:=by
    have h1:=hr.length;have h2:=congrArg List.length h8;rw[List.length_take]at h2;have h3:hdrB.length=8:=rfl;omega
   have ej:∀k,k=min n 8→((str (r.take k)).toList !=(str (hdrB.take k)).toList)=false:=fun k e=>by rw[e,Nat.min_eq_right pn,h8];simp[zl,hdrB]
 have ik:=hr.length;obtain⟨m,hm⟩:∃m,m=min n 8:=⟨_,rfl⟩
 have m8:min (n:Int) 8=(m:Int):=by omega
 have mR:m≤n:=by omega
 have wF:m≤8:=by omega
 have o6:Bd (some (Value.int .i64 (m:Int))) n m:=.inr ⟨_,_,rfl,rfl⟩;have hq:=ej m hm;first|(have qq2g:=qq2g;have NH:((str (r.take m)).toList==(str (hdrB.take m)).toList)=(!false):=by rw[←hq,bne];simp)|(have qq2f:=qq2f;have NH:((str (r.take m)).toList==(str (hdrB.take m)).toList)=(!true):=by rw[←hq,bne];simp)|(have NH:((str (r.take m)).toList==(str (hdrB.take m)).toList)=(!false):=by rw[←hq,bne];simp)
 clear ej;have Rg:=Lib.hid hm;clear hm;have fz:=fun(W:World) (h:Below w.heap.size w W)=>jk (P:=prog) underlying55 underlying9 underlying5 (RdB.cut (hr.below' h bL) (lo:=0) (k:=m) Wq)
 simp only[Nat.sub_zero,List.drop_zero]at fz;have ns:=hr.cap;have nN:=hr.max;have x1:=hb.c1;go_enter func25,ntmps25;go_upto_region 1 with fail;refine zt (fun W:World=>Below w.heap.size w W) Wj ?_;have hS:Below w.heap.size w w.drew:=za (Below.refl _ _) 1;generalize w.drew=wd at*;refine rg_t 0 hS ?_;simp only[List.getElem_toArray,List.getElem_cons_zero,Act.put,List.setIfInBounds_toArray,List.set_cons_zero,List.set_cons_succ];refine rg_t 1 hS ?_;simp only[g_S];refine rg_t 2 hS ?_;simp only[g_S];refine ze 3 (v:=?_) rfl Wj Wj Wj hS rfl ?_ ?_;rotate_left
 ·intro wS He;have k0:=(hb.below He).cell (j:=1) rfl;go_simp;(with_reducible rfl)
 simp only[g_S];refine rg_t 4 hS ?_;simp only[g_S];refine qF 5 slB rfl Wj Wj Wj hS rfl rfl rfl nN ns 0 m c (.inl ⟨rfl,rfl⟩) o6 (.inl ⟨rfl,rfl⟩) Mz Wq Wq (Nat.le_refl _) Wq ?_;try simp only[g_S]
 simp only[Nat.sub_zero];refine ze 6 (v:=?_) rfl Wj Wj Wj hS rfl ?_ ?_;rotate_left
 ·intro wS He;have k0:=fz _ He;go_simp;(with_reducible rfl)
 simp only[g_S];refine rg_t 7 hS ?_;simp only[g_S];refine ze 8 (v:=?_) rfl Wj Wj Wj hS rfl ?_ ?_;rotate_left
 ·intro wS He;rw[qL (x:=.const<| .string ⟨#[65,77,81,80,1,1,0,10]⟩) (lo:=none) (hi:=some<| .tmp 17) underlying9 (l:=hdrB) (i:=0) (j:=m)]<;>first|rfl|omega|exact wF|exact .inl ⟨rfl,rfl⟩|exact .inr ⟨_,_,rfl,rfl⟩
 simp only[g_S];simp only[List.drop_zero];refine rg_t 9 hS ?_;simp only[g_S];refine rg_t 10 hS ?_;simp only[g_S];refine zz Wj ?_;clear fz x1
 first
 | have qq2g:=qq2g
   have Nt:((m:Int)==8)=false:=by simp;omega
   clear hb hr
 | have qq2f:=qq2f
   have im:=hb.below hS;have fS:w.heap.size≤wd.heap.size:=hS.size;have pq:=YG bplL wd _ im rfl p rfl hp SA l hdrB rfl (zh Hl hS) hne Wq nZ;have tv:KeepF (fun k=>k=lb∨blk SA=some k) w wd:=.below hS;clear h8 hb hr im;unfold hdrB at pq;go_wp2_with(with_reducible refine h_B ?_);refine pq.mono ?_;rintro e w2 ⟨rfl,GJ⟩;clear pq;obtain⟨⟨A2,c2,bF,iE,eO,gQ⟩,dS⟩:=GJ;change Own w2 base 5 1 A2 (l++hdrB).length c2 ((l++hdrB).map u8v)at iE;replace bF:Box w2 lb 61 #[.int .u8 0,.slice RA n c,x2,x3,.int .u64 (sz:Int),bPtr lb 5,.slice A2 (l++hdrB).length c2,x7]:=bF;go_wp2_with(with_reducible refine h_B ?_);refine zc (xx rfl rfl rfl rfl bF (j:=0) (v:=.int .u8 5) rfl Wj Wz ?_);intro w3 bX H6 fR;clear fR;replace bX:Box w3 lb 61 #[.int .u8 5,.slice RA n c,x2,x3,.int .u64 (sz:Int),bPtr lb 5,.slice A2 (l++hdrB).length c2,x7]:=bX;have eM:=zk iE H6 (fun k hk e=>eO zAb)
   have BQ:KeepF (fun k=>k=lb∨blk SA=some k) w w3:=(tv.trans dS (fun k hk=>.inl hk)).trans (.grown (F:=fun k=>k=lb) H6 (fun k hk=>.inl uj)) (fun k hk=>.inl (.inl hk))
 | have PQ:m=8:=by have:=Rg.out;omega
   (have oe:((m:Int)==8)=true:=by rw[PQ];rfl);have HME:=Lib.hid PQ;(have Ww:8≤m:=by omega);have im:=hb.below hS;have fS:w.heap.size≤wd.heap.size:=hS.size;have x1:=im.c1;clear PQ h8 hb hr;go_wp2_with(first|(with_reducible refine zZ ?_)|(with_reducible refine yg ?_)|(with_reducible refine xr ?_));refine zc (zb8 slB rfl rfl rfl nN ns 8 n c (.inr ⟨_,_,rfl,by omega⟩) (.inl ⟨rfl,rfl⟩) (.inl ⟨rfl,rfl⟩) mq pn ns (Nat.le_refl _) (Nat.le_refl _) ?_);go_wp2_with(with_reducible refine h_B ?_);refine zc (xx rfl rfl rfl rfl im (j:=1) (v:=.slice (cutA RA 1 8 c) (n-8) (c-8)) rfl Wj Wz ?_);intro w1 bK bN cy;have D0:=Lib.hid cy;clear cy;have rT:=zk (zh Hl hS) bN (fun k hk e=>hne zAb);have tv:KeepF (fun k=>k=lb∨blk SA=some k) w w1:=(KeepF.below hS).trans (.grown (F:=fun k=>k=lb∨blk SA=some k) bN (fun k hk=>.inl (.inl uj))) (fun k hk=>.inl hk);have pq:=YG bplL w1 _ bK rfl p rfl hp SA l hdrB rfl rT hne (by have:=D0.out;omega) nZ;clear x1 im rT;unfold hdrB at pq;go_wp2_with(with_reducible refine h_B ?_);refine pq.mono ?_;rintro e w2 ⟨rfl,GJ⟩;clear pq;obtain⟨⟨A2,c2,bF,iE,eO,gQ⟩,dS⟩:=GJ;change Own w2 base 5 1 A2 (l++hdrB).length c2 ((l++hdrB).map u8v)at iE;replace bF:Box w2 lb 61 #[.int .u8 0,.slice (cutA RA 1 8 c) (n-8) (c-8),x2,x3,.int .u64 (sz:Int),bPtr lb 5,.slice A2 (l++hdrB).length c2,x7]:=bF;go_wp2_with(with_reducible refine h_B ?_);refine zc (xx rfl rfl rfl rfl bF (j:=0) (v:=.int .u8 1) rfl Wj Wz ?_);intro w3 bX H6 fR;have HZ3:=Lib.hid fR;clear fR;replace bX:Box w3 lb 61 #[.int .u8 1,.slice (cutA RA 1 8 c) (n-8) (c-8),x2,x3,.int .u64 (sz:Int),bPtr lb 5,.slice A2 (l++hdrB).length c2,x7]:=bX;have eM:=zk iE H6 (fun k hk e=>eO zAb);(have dC:∀W,Calls prog 37 #[.int .u64 0,.string ⟨#[112,111,115,116,104,111,117,115,101]⟩] W fun e w'=>e= .returned (.agg #[.bool true,.int .u64 0,.string ⟨#[112,111,115,116,104,111,117,115,101]⟩,.int .u32 0,.string ⟨#[]⟩,.string ⟨#[]⟩,.slice none 0 0,.int .u8 0,.int .u64 0,.string ⟨#[]⟩,.slice none 0 0,.slice none 0 0])∧Below W.heap.size W w':=fun W=>kX 0 [112,111,115,116,104,111,117,115,101] W);have BQ:KeepF (fun k=>k=lb∨blk SA=some k) w w3:=(tv.trans dS (fun k hk=>.inl hk)).trans (.grown (F:=fun k=>k=lb) H6 (fun k hk=>.inl uj)) (fun k hk=>.inl (.inl hk));clear bK bF iE tv bN H6;go_wp2_with(with_reducible refine h_B ?_)
   (with_reducible refine(dC _).mono ?_)
   rintro e w4 ⟨rfl,Hn⟩;clear dC;obtain⟨gb,w5,bD,bo,hG,gH⟩:=zq w4 #[.bool true,.int .u64 0,.string ⟨#[112,111,115,116,104,111,117,115,101]⟩,.int .u32 0,.string ⟨#[]⟩,.string ⟨#[]⟩,.slice none 0 0,.int .u8 0,.int .u64 0,.string ⟨#[]⟩,.slice none 0 0,.slice none 0 0] 80;have bZ:=yn (w:=w4) w4.heap.size #[.bool true,.int .u64 0,.string ⟨#[112,111,115,116,104,111,117,115,101]⟩,.int .u32 0,.string ⟨#[]⟩,.string ⟨#[]⟩,.slice none 0 0,.int .u8 0,.int .u64 0,.string ⟨#[]⟩,.slice none 0 0,.slice none 0 0] 80 1 (Nat.le_refl _) WX (size:=12) rfl Wq;rw[←bo,←bD]at bZ;have fa:Rd w5 w5.heap.size 12 (some ⟨gb,0,none⟩) 1 1 (rowC saC [⟨true,0,[112,111,115,116,104,111,117,115,101]⟩]):=bZ.rd;have bw:=Hn.trans (gH.mono Hn.size);have Br:KeepF (fun k=>k=lb∨blk SA=some k) w w5:=BQ.trans (KeepF.below (F:=fun k=>k=lb) bw) (fun k hk=>.inl (.inl hk));have Tk:hdrB.length=8:=rfl;have fB:=v8 Hl;have fy:=Zr 1 [⟨true,0,[112,111,115,116,104,111,117,115,101]⟩] startB ctl1 WJ lb sz base (l++hdrB).length c2 _ (bPtr lb 5) A2 (l++hdrB) (some ⟨gb,0,none⟩) 1 1 w5 (he.onK Br (fun e=>by rcases e with e|e;exact fD e;have:=(Hl.blk_lt e).1;omega)) fa (bX.below bw) rfl rfl Bw rfl (.inr rfl) rfl (zh eM bw) eO (by have:=Br.1;omega) (by rw[List.length_append];omega);rw[show(((1:Nat)):Int)=1 from rfl]at fy;clear bZ fa hG gH Tk fB
 go_wp2_with(with_reducible refine h_B ?_)
 first
 | done
 | have qq2g:=qq2g
 | have qq2f:=qq2f
 | rw[←bD,←bo]
   clear bD bo
   (with_reducible refine fy.mono ?_)
   rintro e w6 ⟨rfl,hW6⟩;clear fy;obtain⟨⟨A6,c6,di,lN,rO,ey⟩,il⟩:=hW6;go_wp2
 go_end0
 first
 | have qq2g:=qq2g
   exact⟨rfl,hS⟩
 | have qq2f:=qq2f
   exact⟨rfl,⟨A2,c2,bX,eM,eO,gQ.imp id (fun e k hk=>by have:=e k hk;omega)⟩,BQ⟩
 | refine⟨rfl,pn,⟨A6,c6,di,lN,rO,?_⟩,Br.trans (il.weak (G:=fun k=>k=lb∨blk A2=some k) (fun k hk=>.inl hk)) ?_⟩
   ·rcases ey with h|h
    ·rw[h];rcases gQ with h2|h2
     ·exact .inl h2
     exact .inr fun k hk=>by have:=h2 k hk;have:=D0.out;omega
    exact .inr fun k hk=>by have:=h k hk;have:=Br.1;omega
   ·intro k hk;rcases hk with hk|hk
    ·exact .inl (.inl hk)
    rcases gQ with h2|h2
    ·exact .inl (.inr (by rw[←h2];exact hk))
    exact .inr (by have:=h2 k hk;have:=D0.out;omega)):p:=h
theorem Z43_(h:p:=by
 first|(have qqin:=qqin;have hq:=ar.out)|(have hq:=HQ5.out)
 exact(hq.keep (fun g hg=>cf.block g hg.2 Hx) cf.size).mono (fun g hg=>⟨by have:=hg.1;omega,Nat.lt_of_lt_of_le hg.2 cf.size⟩)):p:=h
theorem Z5t_(h:p:=by
 unfold ye at h3;split at h3
 ·rename_i hr
  split at h3
  ·exact⟨hr,by omega⟩
  omega
 omega):p:=h
theorem Zb_(h:p:=by
 obtain⟨zb,w1,eP,fO,hZ,Ha⟩:=zg w #[.bool false,.int .u64 0,.string ⟨#[]⟩,.int .u32 0,.string ⟨#[]⟩,.string ⟨#[]⟩,.slice none 0 0,.int .u8 0,.int .u64 0,.string ⟨#[]⟩,.slice none 0 0,.slice none 0 0] 80;have BC:l.length=n:=RdB.length (show RdB w w.heap.size A n c l from hr.1);have cX:RdB w w.heap.size A n c l:=hr.1;have cR:=yZ A n c l w1 (yS (cX.below Ha) Ha.size) Wq;have sX:w.heap.size≤zb:=by omega
 go_enter func112,ntmps112;go_upto_region 1 with fail;rw[←eP,←fO];clear eP fO;go_wp2_with(with_reducible refine h_A ?_);refine cR.mono ?_;rintro e w2 ⟨ob,rfl,pO,hR,Hc⟩;have fj:=hZ.below Hc;have BK:=Ha.trans (Hc.mono Ha.size);have BZ:=Ha.size;have te:=hZ.lt;clear cR hZ Ha Hc;obtain⟨ab,w3,Bo,f9,hX,Hh⟩:=zg w2 #[.bool false,.int .u64 0,.string ⟨#[]⟩,.int .u32 0,.string ⟨#[]⟩,.string ⟨#[]⟩,.slice none 0 0,.int .u8 0,.int .u64 0,.string ⟨#[]⟩,.slice none 0 0,.slice none 0 0] 80;go_upto_region 3 with fail;rw[←Bo,←f9];have gy:=fj.below Hh;have BH:=BK.trans (Hh.mono BK.size);have fw:=hR.below Hh;have ow:=fj.lt;have De:zb<ab:=by omega
 have eu:w2.heap.size≤ab:=by omega
 have DE:ob<ab:=by have:=hR.lt;omega
 have mK:∀g,(w1.heap.size≤g∧g<w2.heap.size)→g≠ab∧g≠zb:=fun g hg=>by omega
 clear Bo f9 fj BK hR Hh
 first
 | have qq2j:=qq2j
   have B3:=hX;have eZ:=gy;have bc:=BH;clear hX gy BH fw
   obtain⟨w5,rfl⟩:∃q,q=w3:=⟨_,rfl⟩
 | have qq2i:=qq2i
   have fV:=Km A n c l w3 (yS (cX.below BH) BH.size) Wq;have cW:=Jd l;have gG:=Vv l;(have fH:=fun(a':Ag) (rest:List UInt8) (hl:l=a'.x.bytes++rest) (hx:a'.x.fmt<4294967296) (bJ:a'.x.ok=true)=>(show getR l=(a'.x,a'.x.bytes.length,0) by rw[hl,Yj hx bJ]));(obtain⟨T,hT⟩:∃t,t=getR l:=⟨_,rfl⟩);rw[←hT]at fV cW gG fH;obtain⟨x,k,er⟩:=T;simp only at fV cW gG;have iA:=Lib.hid fH;have Rn:=gG.2.1;have Ob:=gG.2.2;unfold xdV at fV;clear hT fw fH;go_wp2_with(with_reducible refine h_A ?_);refine fV.mono ?_;rintro e w4 ⟨rfl,Hn⟩;have Bg:=hX.below Hn;have ij:=gy.below Hn;have BF:=BH.trans (Hn.mono BH.size);clear fV hX gy BH Hn;go_wp2_with(with_reducible refine h_B ?_);refine zc (zn (v:=.agg #[.int .u32 (x.fmt:Int),.string (str x.glob),.string (str x.bran)]) (vs:=[.int .u32 (x.fmt:Int),.string (str x.glob),.string (str x.bran)]) rfl rfl rfl rfl Bg rfl Wj Wz mj #[.bool false,.int .u64 0,.string ⟨#[]⟩,.int .u32 (x.fmt:Int),.string (str x.glob),.string (str x.bran),.slice none 0 0,.int .u8 0,.int .u64 0,.string ⟨#[]⟩,.slice none 0 0,.slice none 0 0] Wz ?_);intro w5 B3 H9 _;have eZ:=ij.grown H9 (sne Wq);have bc:=BF.grown H9 BF.size Wx
   clear Bg ij H9 BF
 | have qq2h:=qq2h
   have fV:=zao A n c l w3 (yS (cX.below BH) BH.size) hn;clear fw;go_wp2_with(with_reducible refine h_A ?_);refine fV.mono ?_;rintro e w4 ⟨x,h1,k,er,rfl,hV,Hn,bI,fH⟩;have iA:=Lib.hid fH;unfold vlV;have Bg:=hX.below Hn;have ij:=gy.below Hn;have BF:=BH.trans (Hn.mono BH.size);have d9:=BH.size;have GL:=hX.lt;clear fV hX gy BH Hn fH;go_wp2_with(with_reducible refine h_B ?_);refine zc (zn (v:=.agg #[.int .u8 (x.kind:Int),.int .u64 (x.n:Int),.string (str x.s),.slice h1.A1 x.keys.length h1.c1,.slice h1.A2 x.list.length h1.c2]) (vs:=[.int .u8 (x.kind:Int),.int .u64 (x.n:Int),.string (str x.s),.slice h1.A1 x.keys.length h1.c1,.slice h1.A2 x.list.length h1.c2]) rfl rfl rfl rfl Bg rfl Wj Wz (zaq x h1) #[.bool false,.int .u64 0,.string ⟨#[]⟩,.int .u32 0,.string ⟨#[]⟩,.string ⟨#[]⟩,.slice none 0 0,.int .u8 (x.kind:Int),.int .u64 (x.n:Int),.string (str x.s),.slice h1.A1 x.keys.length h1.c1,.slice h1.A2 x.list.length h1.c2] Wz ?_);intro w5 B3 H9 _;have eZ:=ij.grown H9 (sne Wq);have bc:=BF.grown H9 BF.size Wx;have uP:RV w5 (FN w3.heap.size w5) x h1:=(hV.keep (fun g hg=>H9.block g hg.2 Hx) H9.size).mono (fun g hg=>⟨hg.1,Nat.lt_of_lt_of_le hg.2 H9.size⟩);clear Bg ij H9 BF hV;have ar:=Lib.hid uP
   have lf:∀(we:World),w5.drew.grownBy we (some zb)→RV we (FN w.heap.size we) x h1:=fun we cf=>by
    have qqin:=();exact Z43_
   clear uP
 | have fV:=JX A n c l w3 (yS (cX.below BH) BH.size) Wq
   have cW:qu l≤l.length:=Yn l;have bJ:=XC l
   have mF:(xN l).length≤140737488351232:=by
    unfold xN;split
    ·rw[ji];have hN:getN l<65536:=xY;omega
    simp
   (have fH:=fun(a':Ag) (rest:List UInt8) (hl:l=yL a'.q++rest) (h1:zV a'.q=true) (h2:a'.q.length≤1000) (h3:spOK 4294967296 a'.q)=>(show xN l=a'.q∧qu l=(yL a'.q).length by rw[hl];exact⟨(Qy rest h1 h2 h3).2.1,(Qy rest h1 h2 h3).2.2⟩));generalize xN l=Q at*;generalize qu l=k at*;generalize zO l=er at*;have iA:=Lib.hid fH;have Bz:=Lib.hid bJ;clear fw fH bJ;go_wp2_with(with_reducible refine h_A ?_);refine fV.mono ?_;rintro e w4 ⟨A2,c2,rfl,Bq,Hn⟩;have Bg:=hX.below Hn;have ij:=gy.below Hn;have BF:=BH.trans (Hn.mono BH.size);have d9:=BH.size;have GL:=hX.lt;clear fV hX gy BH Hn;go_wp2_with(with_reducible refine h_B ?_);refine zc (zn (v:=.slice A2 Q.length c2) (vs:=[.slice A2 Q.length c2]) rfl rfl rfl rfl Bg rfl Wj Wz wX #[.bool false,.int .u64 0,.string ⟨#[]⟩,.int .u32 0,.string ⟨#[]⟩,.string ⟨#[]⟩,.slice A2 Q.length c2,.int .u8 0,.int .u64 0,.string ⟨#[]⟩,.slice none 0 0,.slice none 0 0] Wz ?_);intro w5 B3 H9 _;have eZ:=ij.grown H9 (sne Wq);have bc:=BF.grown H9 BF.size Wx;have ct:OwnS w5 w3.heap.size A2 Q.length c2 Q:=zk Bq H9 (fun g hg e=>by injection e with e;have:=(Bq.blk_lt hg).1;omega);clear Bg ij H9 BF Bq;have pS:RdX w5 (fun g=>w3.heap.size≤g∧g<w5.heap.size) 2 A2 Q.length c2 (yx Q):=RdX.of_own ct (fun g hg=>ct.blk_lt hg);have HQ5:=Lib.hid pS;clear ct pS;obtain⟨W5,hW5⟩:∃q,q=w5:=⟨_,rfl⟩
   have lf:∀(we:World),w5.drew.grownBy we (some zb)→RdX we (fun g=>w.heap.size≤g∧g<we.heap.size) 2 A2 Q.length c2 (yx Q):=fun we cf=>by
    exact Z43_
   clear hW5
 have fq:=hr.1.cap;have gC:=hr.1.max;go_upto_region 20 with fail
 first
 | have qq2j:=qq2j
   refine zt (fun W:World=>Box W ab 80 #[.bool false,.int .u64 0,.string ⟨#[]⟩,.int .u32 0,.string ⟨#[]⟩,.string ⟨#[]⟩,.slice none 0 0,.int .u8 0,.int .u64 0,.string ⟨#[]⟩,.slice none 0 0,.slice none 0 0]) Wj ?_
   have hS:Box w5.drew ab 80 #[.bool false,.int .u64 0,.string ⟨#[]⟩,.int .u32 0,.string ⟨#[]⟩,.string ⟨#[]⟩,.slice none 0 0,.int .u8 0,.int .u64 0,.string ⟨#[]⟩,.slice none 0 0,.slice none 0 0]:=B3
 | have qq2i:=qq2i
   refine zt (fun W:World=>Box W ab 80 #[.bool false,.int .u64 0,.string ⟨#[]⟩,.int .u32 (x.fmt:Int),.string (str x.glob),.string (str x.bran),.slice none 0 0,.int .u8 0,.int .u64 0,.string ⟨#[]⟩,.slice none 0 0,.slice none 0 0]) Wj ?_
   have hS:Box w5.drew ab 80 #[.bool false,.int .u64 0,.string ⟨#[]⟩,.int .u32 (x.fmt:Int),.string (str x.glob),.string (str x.bran),.slice none 0 0,.int .u8 0,.int .u64 0,.string ⟨#[]⟩,.slice none 0 0,.slice none 0 0]:=B3
 | have qq2h:=qq2h
   refine zt (fun W:World=>Box W ab 80 #[.bool false,.int .u64 0,.string ⟨#[]⟩,.int .u32 0,.string ⟨#[]⟩,.string ⟨#[]⟩,.slice none 0 0,.int .u8 (x.kind:Int),.int .u64 (x.n:Int),.string (str x.s),.slice h1.A1 x.keys.length h1.c1,.slice h1.A2 x.list.length h1.c2]) Wj ?_
   have hS:Box w5.drew ab 80 #[.bool false,.int .u64 0,.string ⟨#[]⟩,.int .u32 0,.string ⟨#[]⟩,.string ⟨#[]⟩,.slice none 0 0,.int .u8 (x.kind:Int),.int .u64 (x.n:Int),.string (str x.s),.slice h1.A1 x.keys.length h1.c1,.slice h1.A2 x.list.length h1.c2]:=B3
 | refine zt (fun W:World=>Box W ab 80 #[.bool false,.int .u64 0,.string ⟨#[]⟩,.int .u32 0,.string ⟨#[]⟩,.string ⟨#[]⟩,.slice A2 Q.length c2,.int .u8 0,.int .u64 0,.string ⟨#[]⟩,.slice none 0 0,.slice none 0 0]) Wj ?_
   have hS:Box w5.drew ab 80 #[.bool false,.int .u64 0,.string ⟨#[]⟩,.int .u32 0,.string ⟨#[]⟩,.string ⟨#[]⟩,.slice A2 Q.length c2,.int .u8 0,.int .u64 0,.string ⟨#[]⟩,.slice none 0 0,.slice none 0 0]:=B3
 replace bc:=za bc 1;replace eZ:Box w5.drew zb 80 #[.bool false,.int .u64 0,.string ⟨#[]⟩,.int .u32 0,.string ⟨#[]⟩,.string ⟨#[]⟩,.slice none 0 0,.int .u8 0,.int .u64 0,.string ⟨#[]⟩,.slice none 0 0,.slice none 0 0]:=eZ;have bc:Below w.heap.size w w5.drew:=bc
 skip
 clear B3;generalize w5.drew=wd at*;refine ze 0 (v:=?_) rfl Wj Wj Wj hS rfl ?_ ?_;rotate_left
 ·intro wS He;have y0:=He.cell (j:=0) rfl;have y1:=He.cell (j:=1) rfl;have y2:=He.cell (j:=2) rfl;have y3:=He.cell (j:=3) rfl;have y4:=He.cell (j:=4) rfl;have y5:=He.cell (j:=5) rfl;have y6:=He.cell (j:=6) rfl;have y7:=He.cell (j:=7) rfl;have y8:=He.cell (j:=8) rfl;have y9:=He.cell (j:=9) rfl;have yA:=He.cell (j:=10) rfl;have yB:=He.cell (j:=11) rfl;go_simp;(with_reducible rfl)
 simp only[List.getElem_toArray,List.getElem_cons_zero,Act.put,List.setIfInBounds_toArray,List.set_cons_zero,List.set_cons_succ];refine rg_t 1 hS ?_;simp only[g_S];refine rg_t 2 hS ?_;simp only[g_S]
 first
 | have qq2j:=qq2j
   refine qF 3 slB rfl Wj Wj Wj hS rfl rfl rfl gC fq 0 n c (.inr ⟨_,_,rfl,rfl⟩) (.inl ⟨rfl,rfl⟩) (.inl ⟨rfl,rfl⟩) mq Wq Wq (Nat.le_refl _) (Nat.le_refl _) ?_
 | refine qF 3 slB rfl Wj Wj Wj hS rfl rfl rfl gC fq k n c (.inr ⟨_,_,rfl,rfl⟩) (.inl ⟨rfl,rfl⟩) (.inl ⟨rfl,rfl⟩) mq Wq Wq (Nat.le_refl _) (Nat.le_refl _) ?_
 try simp only[g_S]
 refine zj 4 rfl Wj rfl (fun K hK=>?_)
 first
 | have qq2j:=qq2j
   refine zK (g:=zb) (j:=0) (v:=.agg #[.bool false,.int .u64 0,.string ⟨#[]⟩,.int .u32 0,.string ⟨#[]⟩,.string ⟨#[]⟩,.slice none 0 0,.int .u8 0,.int .u64 0,.string ⟨#[]⟩,.slice none 0 0,.slice none 0 0]) (vs:=(#[.bool false,.int .u64 0,.string ⟨#[]⟩,.int .u32 0,.string ⟨#[]⟩,.string ⟨#[]⟩,.slice none 0 0,.int .u8 0,.int .u64 0,.string ⟨#[]⟩,.slice none 0 0,.slice none 0 0]).toList) rfl rfl rfl eZ rfl Wj Wz vp #[.bool false,.int .u64 0,.string ⟨#[]⟩,.int .u32 0,.string ⟨#[]⟩,.string ⟨#[]⟩,.slice none 0 0,.int .u8 0,.int .u64 0,.string ⟨#[]⟩,.slice none 0 0,.slice none 0 0] Wz ?_
 | have qq2i:=qq2i
   refine zK (g:=zb) (j:=0) (v:=.agg #[.bool false,.int .u64 0,.string ⟨#[]⟩,.int .u32 (x.fmt:Int),.string (str x.glob),.string (str x.bran),.slice none 0 0,.int .u8 0,.int .u64 0,.string ⟨#[]⟩,.slice none 0 0,.slice none 0 0]) (vs:=(#[.bool false,.int .u64 0,.string ⟨#[]⟩,.int .u32 (x.fmt:Int),.string (str x.glob),.string (str x.bran),.slice none 0 0,.int .u8 0,.int .u64 0,.string ⟨#[]⟩,.slice none 0 0,.slice none 0 0]).toList) rfl rfl rfl eZ rfl Wj Wz vp #[.bool false,.int .u64 0,.string ⟨#[]⟩,.int .u32 (x.fmt:Int),.string (str x.glob),.string (str x.bran),.slice none 0 0,.int .u8 0,.int .u64 0,.string ⟨#[]⟩,.slice none 0 0,.slice none 0 0] Wz ?_
 | have qq2h:=qq2h
   refine zK (g:=zb) (j:=0) (v:=.agg #[.bool false,.int .u64 0,.string ⟨#[]⟩,.int .u32 0,.string ⟨#[]⟩,.string ⟨#[]⟩,.slice none 0 0,.int .u8 (x.kind:Int),.int .u64 (x.n:Int),.string (str x.s),.slice h1.A1 x.keys.length h1.c1,.slice h1.A2 x.list.length h1.c2]) (vs:=(#[.bool false,.int .u64 0,.string ⟨#[]⟩,.int .u32 0,.string ⟨#[]⟩,.string ⟨#[]⟩,.slice none 0 0,.int .u8 (x.kind:Int),.int .u64 (x.n:Int),.string (str x.s),.slice h1.A1 x.keys.length h1.c1,.slice h1.A2 x.list.length h1.c2]).toList) rfl rfl rfl eZ rfl Wj Wz vp #[.bool false,.int .u64 0,.string ⟨#[]⟩,.int .u32 0,.string ⟨#[]⟩,.string ⟨#[]⟩,.slice none 0 0,.int .u8 (x.kind:Int),.int .u64 (x.n:Int),.string (str x.s),.slice h1.A1 x.keys.length h1.c1,.slice h1.A2 x.list.length h1.c2] Wz ?_
 | refine zK (g:=zb) (j:=0) (v:=.agg #[.bool false,.int .u64 0,.string ⟨#[]⟩,.int .u32 0,.string ⟨#[]⟩,.string ⟨#[]⟩,.slice A2 Q.length c2,.int .u8 0,.int .u64 0,.string ⟨#[]⟩,.slice none 0 0,.slice none 0 0]) (vs:=(#[.bool false,.int .u64 0,.string ⟨#[]⟩,.int .u32 0,.string ⟨#[]⟩,.string ⟨#[]⟩,.slice A2 Q.length c2,.int .u8 0,.int .u64 0,.string ⟨#[]⟩,.slice none 0 0,.slice none 0 0]).toList) rfl rfl rfl eZ rfl Wj Wz vp #[.bool false,.int .u64 0,.string ⟨#[]⟩,.int .u32 0,.string ⟨#[]⟩,.string ⟨#[]⟩,.slice A2 Q.length c2,.int .u8 0,.int .u64 0,.string ⟨#[]⟩,.slice none 0 0,.slice none 0 0] Wz ?_
 intro we oS cf _
 first
 | have qq2j:=qq2j
   have BI:Box we ab 80 #[.bool false,.int .u64 0,.string ⟨#[]⟩,.int .u32 0,.string ⟨#[]⟩,.string ⟨#[]⟩,.slice none 0 0,.int .u8 0,.int .u64 0,.string ⟨#[]⟩,.slice none 0 0,.slice none 0 0]:=hS.grown cf (sne Wq)
 | have qq2i:=qq2i
   have BI:Box we ab 80 #[.bool false,.int .u64 0,.string ⟨#[]⟩,.int .u32 (x.fmt:Int),.string (str x.glob),.string (str x.bran),.slice none 0 0,.int .u8 0,.int .u64 0,.string ⟨#[]⟩,.slice none 0 0,.slice none 0 0]:=hS.grown cf (sne Wq)
 | have qq2h:=qq2h
   have BI:Box we ab 80 #[.bool false,.int .u64 0,.string ⟨#[]⟩,.int .u32 0,.string ⟨#[]⟩,.string ⟨#[]⟩,.slice none 0 0,.int .u8 (x.kind:Int),.int .u64 (x.n:Int),.string (str x.s),.slice h1.A1 x.keys.length h1.c1,.slice h1.A2 x.list.length h1.c2]:=hS.grown cf (sne Wq)
 | have BI:Box we ab 80 #[.bool false,.int .u64 0,.string ⟨#[]⟩,.int .u32 0,.string ⟨#[]⟩,.string ⟨#[]⟩,.slice A2 Q.length c2,.int .u8 0,.int .u64 0,.string ⟨#[]⟩,.slice none 0 0,.slice none 0 0]:=hS.grown cf (sne Wq)
 have iQ:=bc.grown cf bc.size Wx;first|(have qq2j:=qq2j;have oQ:=(hr.keep (w':=we) (fun g hg=>iQ.block g (hF g hg)) iQ.size).cut 0 Wq)|(have oQ:=(hr.keep (w':=we) (fun g hg=>iQ.block g (hF g hg)) iQ.size).cut k Wq)
 refine hK _ _ BI ?_;clear hK K;try simp only[g_S]
 refine rg_t 5 BI ?_;simp only[g_S];refine zz Wj ?_;go_wp2_with(with_reducible refine h_A ?_);refine zG rfl oS rfl rfl underlying80 rfl Wj rfl ?_
 first
 | have qq2j:=qq2j
   refine⟨ag0 false,ah0,_,_,_,_,rfl,RA.zero _ _ _,oQ.mono (fun g hg=>.inl hg),by omega,iQ,rfl,fun a' rest hl l7 _=>?_⟩;have h2:zy a' (ag0 a'.is)=true:=l7;have e2:a'=ag0 a'.is:=(zL _ _).1 h2;refine⟨by rw[e2];rfl,?_⟩;rw[hl]
   rfl
 | have qq2i:=qq2i
   refine⟨⟨false,0,[],x,[],vl0⟩,ah0,_,_,_,_,rfl,⟨(RA.zero we (FN w.heap.size we) true).n,(RA.zero we (FN w.heap.size we) true).s,gG,(RA.zero we (FN w.heap.size we) true).q,(RA.zero we (FN w.heap.size we) true).ok,(RA.zero we (FN w.heap.size we) true).c,(RA.zero we (FN w.heap.size we) true).v⟩,oQ.mono (fun g hg=>.inl hg),by omega,iQ,rfl,fun a' rest hl l7 Bo=>?_⟩;have h2:(decide (((a'.x.err:Nat):Int)=0)&&zy a' (agX a'))=true:=l7;rw[Bool.and_eq_true,decide_eq_true_eq]at h2;obtain⟨h3,h4⟩:=h2;have e2:a'=agX a':=(zL _ _).1 h4
   have bJ:a'.x.ok=true:=by
    cases hk:a'.x.ok
    ·simp[Xd.err,hk]at h3
    rfl
   have iV:l=a'.x.bytes++rest:=by
    rw[hl];(show a'.x.put++rest=_);rw[Xd.put_ok bJ]
   have hg:=iA.out a' rest iV Bo.x bJ;(injection hg with g1 g2);(injection g2 with g2 g3);refine⟨by rw[e2,g1];rfl,?_⟩
   rw[g2,iV,List.drop_left]
 | have qq2h:=qq2h
   refine⟨⟨false,0,[],xd0,[],x⟩,⟨none,0,h1⟩,_,_,_,_,rfl,⟨(RA.zero we (FN w.heap.size we) true).n,(RA.zero we (FN w.heap.size we) true).s,(RA.zero we (FN w.heap.size we) true).x,(RA.zero we (FN w.heap.size we) true).q,(RA.zero we (FN w.heap.size we) true).ok,(RA.zero we (FN w.heap.size we) true).c,lf we cf⟩,oQ.mono (fun g hg=>.inl hg),by omega,iQ,rfl,fun a' rest hl l7 Bo=>?_⟩;have h2:(decide (errV a'.v=0)&&zy a' (agX2 a'))=true:=l7;rw[Bool.and_eq_true,decide_eq_true_eq]at h2;obtain⟨h3,h4⟩:=h2;have e2:a'=agX2 a':=(zL _ _).1 h4
   have iV:l=vlB a'.v++rest:=by
    rw[hl];(show vlP a'.v++rest=_);rw[vlP,if_pos h3]
   obtain⟨g1,g2⟩:=iA.out a'.v rest iV Bo.v h3;refine⟨by rw[e2,g1];rfl,?_⟩
   rw[g2,iV,List.drop_left]
 | have hq:=lf we cf
   refine⟨⟨false,0,[],xd0,Q,vl0⟩,⟨A2,c2,⟨none,0,none,0⟩⟩,_,_,_,_,rfl,⟨(RA.zero we (FN w.heap.size we) true).n,(RA.zero we (FN w.heap.size we) true).s,(RA.zero we (FN w.heap.size we) true).x,hq,Bz.out,mF,(RA.zero we (FN w.heap.size we) true).v⟩,oQ.mono (fun g hg=>.inl hg),by omega,iQ,rfl,fun a' rest hl l7 Bo=>?_⟩;have h2:(decide (((ye a'.q:Nat):Int)=0)&&zy a' (agQ a'))=true:=l7;rw[Bool.and_eq_true,decide_eq_true_eq]at h2;obtain⟨h3,h4⟩:=h2;have e2:a'=agQ a':=(zL _ _).1 h4
   have ik:zV a'.q=true∧a'.q.length≤1000:=by
    exact Z5t_
   obtain⟨g1,g2⟩:=iA.out a' rest hl ik.1 ik.2 Bo.q;refine⟨by rw[e2,g1];rfl,?_⟩;rw[g2,hl]
   exact List.drop_left):p:=h
end Go.PH
