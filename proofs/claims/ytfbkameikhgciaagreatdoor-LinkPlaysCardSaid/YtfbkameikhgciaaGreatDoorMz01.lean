/- Proofs that stand several times. -/
import Derived.Shelf.Utf8.RuneCount
import Derived.Shelf.Strings.Search1
import Derived.Shelf.Strings.Search2
import Derived.Shelf.Strings.Search3
import Derived.Shelf.Strings.Count
import Derived.Shelf.LaysM
import Derived.Shelf.Strings.Shaped
import Derived.Shelf.Strings.Split
import Derived.Shelf.Strings.SplitShaped
import Derived.Shelf.Unicode.Decode
import Derived.Shelf.Strings.RuneCount
import Derived.Shelf.Strings.Explode
import Derived.Shelf.Unicode.DecodeSlow
import Derived.Shelf.Unicode.DecodeAny
import Derived.Shelf.Slices.Equal
import Derived.Shelf.Slices.Empties2
import Derived.Shelf.Bytes.SlSearch0
import Derived.Ground.SlbCloneProg
import Derived.Shelf.Bytes.SlClone
import Derived.Shelf.Bytes.SlEqualAll
import Derived.Shelf.Bytes.Small
import Derived.WalkKit
import Derived.Lib.Hide
import Derived.Deep.Draws
import Derived.Laws.CopyOwn
import Derived.Deep.AppendLies
import Derived.Maps.AppendAt
import Derived.Deep.DeepAppendRoom
import Derived.Lib.AppendStr
import Derived.Maps.RangeWalk
import Derived.Maps.Views
import Derived.WideKeyEntry
import Derived.Maps.OwnSet
import Derived.Deep.DeepAppendWide
import Derived.Laws.CopyRow
import Derived.Laws.Tables
import Derived.Laws.ResultCell
import Derived.Deep.AppendSrc
import Derived.Deep.Upon
import Derived.Maps.OwnOps
import Derived.OrdersHeld
import Derived.Deep.RegionHeld3
import Derived.ProofKit
import Derived.OpenShut
import Derived.Deep.DeepHandedRow
import Derived.Lib.LaidTab
import Derived.SizedLaws
import Derived.Deep.Slices
import Derived.Deep.QuietTactic
import Derived.BigQuiet
import Derived.Laws.BitsAllLaws
import Derived.Laws.Bits64
import Derived.Lib.Builder
import Derived.Lib.UnsafeStr
import Derived.Laws.Externs
import Derived.RegionTactic
import Derived.BigRegion
import Derived.Deep.RegionWith
import Derived.DeepKeys4
import Derived.Deep.Cut
import Derived.WalkSpells
import Derived.Lib.LazyBuf
import Derived.Laws.StructEq
import Derived.Lib.ConvBytes
import Derived.Deep.CutRange
import Derived.WalkMore
import Derived.Lib.SplitLaws
import Derived.Deep.DeepCutAuto
import Derived.WalkLawsBesides
import Derived.Lib.DecodeN
import Derived.Lib.TrimU
import Derived.Lib.OthersKept
import Derived.Lib.LaidU8
import Derived.StringKeys
import Derived.Defers
import Derived.Recover
import Derived.Deep.CutBlock
import Derived.Lib.Bytealg
import Derived.Test.YtfbkameikhgciaaGreatDoorMz00
set_option linter.all false
set_option maxRecDepth 100000
set_option maxHeartbeats 8000000
namespace Go.PH
open Go.RowKit Go.Proofs
variable {p : Prop}
theorem Zc_(h:p:=by
 obtain⟨zb,w1,eP,fO,hZ,Ha⟩:=zg w #[.bool false,.int .u64 0,.string ⟨#[]⟩,.int .u32 0,.string ⟨#[]⟩,.string ⟨#[]⟩,.slice none 0 0,.int .u8 0,.int .u64 0,.string ⟨#[]⟩,.slice none 0 0,.slice none 0 0] 80;have BC:l.length=n:=RdB.length (show RdB w w.heap.size A n c l from hr.1);have cX:RdB w w.heap.size A n c l:=hr.1;have cR:=yZ A n c l w1 (yS (cX.below Ha) Ha.size) Wq;have sX:w.heap.size≤zb:=by omega
 go_enter func112,ntmps112;go_upto_region 1 with fail;rw[←eP,←fO];clear eP fO;go_wp2_with(with_reducible refine h_A ?_);refine cR.mono ?_;rintro e w2 ⟨ob,rfl,pO,hR,Hc⟩;have fj:=hZ.below Hc;have BK:=Ha.trans (Hc.mono Ha.size);have BZ:=Ha.size;have te:=hZ.lt;clear cR hZ Ha Hc;obtain⟨ab,w3,Bo,f9,hX,Hh⟩:=zg w2 #[.bool false,.int .u64 0,.string ⟨#[]⟩,.int .u32 0,.string ⟨#[]⟩,.string ⟨#[]⟩,.slice none 0 0,.int .u8 0,.int .u64 0,.string ⟨#[]⟩,.slice none 0 0,.slice none 0 0] 80;go_upto_region 3 with fail;rw[←Bo,←f9];have gy:=fj.below Hh;have BH:=BK.trans (Hh.mono BK.size);have fw:=hR.below Hh;have ow:=fj.lt;have De:zb<ab:=by omega
 have eu:w2.heap.size≤ab:=by omega
 have DE:ob<ab:=by have:=hR.lt;omega
 have mK:∀g,(w1.heap.size≤g∧g<w2.heap.size)→g≠ab∧g≠zb:=fun g hg=>by omega
 clear Bo f9 fj BK hR Hh
 first
 | have qq2o:=qq2o
   have fS:=qd 100 4 rfl w3;have gZ:=yG fw 4 Wq Wq;have hlt:=xg l false 4;have bQ:=xM l false 4;have HT:=Lib.hid (YZ 100 4 Wq (fun _=>rfl) (fun a h=>Ym h) l);rw[show((100:Nat):Int)=100 from rfl,show((4:Nat):Int)=4 from rfl]at fS;rw[show((4:Nat):Int)=4 from rfl]at HT
   obtain⟨T,hT⟩:∃t,t=mnum l false 4:=⟨_,rfl⟩
 | have qq2n:=qq2n
   have fS:=qd 119 2 rfl w3;have gZ:=yG fw 2 Wq Wq;have hlt:=xg l false 2;have bQ:=xM l false 2;have HT:=Lib.hid (YZ 119 2 Wq (fun _=>rfl) (fun a h=>Ym h) l);rw[show((119:Nat):Int)=119 from rfl,show((2:Nat):Int)=2 from rfl]at fS;rw[show((2:Nat):Int)=2 from rfl]at HT
   obtain⟨T,hT⟩:∃t,t=mnum l false 2:=⟨_,rfl⟩
 | have qq2m:=qq2m
   have fS:=qd 110 1 rfl w3;have gZ:=yG fw 1 Wq Wq;have hlt:=xg l false 1;have bQ:=xM l false 1;have HT:=Lib.hid (YZ 110 1 Wq (fun _=>rfl) (fun a h=>Ym h) l);rw[show((110:Nat):Int)=110 from rfl,show((1:Nat):Int)=1 from rfl]at fS;rw[show((1:Nat):Int)=1 from rfl]at HT
   obtain⟨T,hT⟩:∃t,t=mnum l false 1:=⟨_,rfl⟩
 | have qq2l:=qq2l
   have fS:=qd 116 2 rfl w3;have gZ:=jc fw 2 65535 Wq Wq Wq Wq;have hlt:=yY l false 2 65535;have bQ:=qW l false 2 65535;have HT:=Lib.hid (Jr 116 2 Wq (fun _=>rfl) (fun a h=>Jc h) l);rw[show((116:Nat):Int)=116 from rfl,show((2:Nat):Int)=2 from rfl]at fS;rw[show((2:Nat):Int)=2 from rfl]at HT;rw[show((65535:Nat):Int)=65535 from rfl]at hlt
   obtain⟨T,hT⟩:∃t,t=zT l false 2 65535:=⟨_,rfl⟩
 | have fS:=qd 115 1 rfl w3
   have gZ:=jc fw 1 65535 Wq Wq Wq Wq;have hlt:=yY l false 1 65535;have bQ:=qW l false 1 65535;have HT:=Lib.hid (Jr 115 1 Wq (fun _=>rfl) (fun a h=>Jc h) l);rw[show((115:Nat):Int)=115 from rfl,show((1:Nat):Int)=1 from rfl]at fS;rw[show((1:Nat):Int)=1 from rfl]at HT;rw[show((65535:Nat):Int)=65535 from rfl]at hlt;obtain⟨T,hT⟩:∃t,t=zT l false 1 65535:=⟨_,rfl⟩
 rw[←hT]at gZ hlt bQ HT;obtain⟨x,l2,b2⟩:=T;simp only at gZ hlt bQ;clear hT;go_wp2_with(with_reducible refine h_A ?_);refine fS.mono ?_;rintro e w4 ⟨rfl,rfl⟩;clear fS;go_wp2_with(with_reducible refine h_A ?_);refine gZ.mono ?_;rintro e w4 ⟨rfl,gh,Ba⟩;have Bg:=hX.grown Ba (sne Wq);have ij:=gy.grown Ba (sne Wq);have BF:=BH.grown Ba BH.size Wx;clear gZ hX gy fw Ba BH;try simp only at gh
 go_wp2_with(with_reducible refine h_B ?_)
 first
 | have qq2o:=qq2o
   refine zc (zn (v:=.int .u64 (x:Int)) (vs:=[.int .u64 (x:Int)]) rfl rfl rfl rfl Bg rfl Wj Wz wX #[.bool false,.int .u64 (x:Int),.string ⟨#[]⟩,.int .u32 0,.string ⟨#[]⟩,.string ⟨#[]⟩,.slice none 0 0,.int .u8 0,.int .u64 0,.string ⟨#[]⟩,.slice none 0 0,.slice none 0 0] Wz ?_)
 | have qq2n:=qq2n
   refine zc (zn (v:=.int .u64 (x:Int)) (vs:=[.int .u64 (x:Int)]) rfl rfl rfl rfl Bg rfl Wj Wz wX #[.bool false,.int .u64 (x:Int),.string ⟨#[]⟩,.int .u32 0,.string ⟨#[]⟩,.string ⟨#[]⟩,.slice none 0 0,.int .u8 0,.int .u64 0,.string ⟨#[]⟩,.slice none 0 0,.slice none 0 0] Wz ?_)
 | have qq2m:=qq2m
   refine zc (zn (v:=.int .u64 (x:Int)) (vs:=[.int .u64 (x:Int)]) rfl rfl rfl rfl Bg rfl Wj Wz wX #[.bool false,.int .u64 (x:Int),.string ⟨#[]⟩,.int .u32 0,.string ⟨#[]⟩,.string ⟨#[]⟩,.slice none 0 0,.int .u8 0,.int .u64 0,.string ⟨#[]⟩,.slice none 0 0,.slice none 0 0] Wz ?_)
 | refine zc (zn (v:=.string (str x)) (vs:=[.string (str x)]) rfl rfl rfl rfl Bg rfl Wj Wz wX #[.bool false,.int .u64 0,.string (str x),.int .u32 0,.string ⟨#[]⟩,.string ⟨#[]⟩,.slice none 0 0,.int .u8 0,.int .u64 0,.string ⟨#[]⟩,.slice none 0 0,.slice none 0 0] Wz ?_)
 intro w5 B3 H9 _;have eo:=gh.kept H9 (fun g hg bH=>by injection hg with hg;have:=mK g bH;omega);have eZ:=ij.grown H9 (sne Wq);have bc:=BF.grown H9 BF.size Wx;clear Bg ij gh H9 BF;obtain⟨A2,c2,n7,nO⟩:=eo.rdx;have cN:=eo.len
 first
 | have qq2o:=qq2o
   go_upto_region 9 with fail;refine zt (fun W:World=>Box W ab 80 #[.bool false,.int .u64 (x:Int),.string ⟨#[]⟩,.int .u32 0,.string ⟨#[]⟩,.string ⟨#[]⟩,.slice none 0 0,.int .u8 0,.int .u64 0,.string ⟨#[]⟩,.slice none 0 0,.slice none 0 0]∧W.cell? ⟨ob,0,none⟩=some (.slice A2 l2.length c2)) Wj ?_
   have hS:Box w5.drew ab 80 #[.bool false,.int .u64 (x:Int),.string ⟨#[]⟩,.int .u32 0,.string ⟨#[]⟩,.string ⟨#[]⟩,.slice none 0 0,.int .u8 0,.int .u64 0,.string ⟨#[]⟩,.slice none 0 0,.slice none 0 0]∧w5.drew.cell? ⟨ob,0,none⟩=some (.slice A2 l2.length c2):=⟨B3,n7⟩
 | have qq2n:=qq2n
   go_upto_region 9 with fail;refine zt (fun W:World=>Box W ab 80 #[.bool false,.int .u64 (x:Int),.string ⟨#[]⟩,.int .u32 0,.string ⟨#[]⟩,.string ⟨#[]⟩,.slice none 0 0,.int .u8 0,.int .u64 0,.string ⟨#[]⟩,.slice none 0 0,.slice none 0 0]∧W.cell? ⟨ob,0,none⟩=some (.slice A2 l2.length c2)) Wj ?_
   have hS:Box w5.drew ab 80 #[.bool false,.int .u64 (x:Int),.string ⟨#[]⟩,.int .u32 0,.string ⟨#[]⟩,.string ⟨#[]⟩,.slice none 0 0,.int .u8 0,.int .u64 0,.string ⟨#[]⟩,.slice none 0 0,.slice none 0 0]∧w5.drew.cell? ⟨ob,0,none⟩=some (.slice A2 l2.length c2):=⟨B3,n7⟩
 | have qq2m:=qq2m
   go_upto_region 9 with fail;refine zt (fun W:World=>Box W ab 80 #[.bool false,.int .u64 (x:Int),.string ⟨#[]⟩,.int .u32 0,.string ⟨#[]⟩,.string ⟨#[]⟩,.slice none 0 0,.int .u8 0,.int .u64 0,.string ⟨#[]⟩,.slice none 0 0,.slice none 0 0]∧W.cell? ⟨ob,0,none⟩=some (.slice A2 l2.length c2)) Wj ?_
   have hS:Box w5.drew ab 80 #[.bool false,.int .u64 (x:Int),.string ⟨#[]⟩,.int .u32 0,.string ⟨#[]⟩,.string ⟨#[]⟩,.slice none 0 0,.int .u8 0,.int .u64 0,.string ⟨#[]⟩,.slice none 0 0,.slice none 0 0]∧w5.drew.cell? ⟨ob,0,none⟩=some (.slice A2 l2.length c2):=⟨B3,n7⟩
 | go_upto_region 13 with fail
   refine zt (fun W:World=>Box W ab 80 #[.bool false,.int .u64 0,.string (str x),.int .u32 0,.string ⟨#[]⟩,.string ⟨#[]⟩,.slice none 0 0,.int .u8 0,.int .u64 0,.string ⟨#[]⟩,.slice none 0 0,.slice none 0 0]∧W.cell? ⟨ob,0,none⟩=some (.slice A2 l2.length c2)) Wj ?_;have hS:Box w5.drew ab 80 #[.bool false,.int .u64 0,.string (str x),.int .u32 0,.string ⟨#[]⟩,.string ⟨#[]⟩,.slice none 0 0,.int .u8 0,.int .u64 0,.string ⟨#[]⟩,.slice none 0 0,.slice none 0 0]∧w5.drew.cell? ⟨ob,0,none⟩=some (.slice A2 l2.length c2):=⟨B3,n7⟩
 replace nO:RdX w5.drew (fun g=>w1.heap.size≤g∧g<w2.heap.size) 1 A2 l2.length c2 (l2.map u8v):=nO.keep (fun g hg=>rfl) (Nat.le_refl _);replace bc:=za bc 1;replace eZ:Box w5.drew zb 80 #[.bool false,.int .u64 0,.string ⟨#[]⟩,.int .u32 0,.string ⟨#[]⟩,.string ⟨#[]⟩,.slice none 0 0,.int .u8 0,.int .u64 0,.string ⟨#[]⟩,.slice none 0 0,.slice none 0 0]:=eZ;have bc:Below w.heap.size w w5.drew:=bc;clear B3 eo n7;generalize w5.drew=wd at*;refine ze 0 (v:=?_) rfl Wj Wj Wj hS rfl ?_ ?_;rotate_left
 ·intro wS He;have y0:=He.1.cell (j:=0) rfl;have y1:=He.1.cell (j:=1) rfl;have y2:=He.1.cell (j:=2) rfl;have y3:=He.1.cell (j:=3) rfl;have y4:=He.1.cell (j:=4) rfl;have y5:=He.1.cell (j:=5) rfl;have y6:=He.1.cell (j:=6) rfl;have y7:=He.1.cell (j:=7) rfl;have y8:=He.1.cell (j:=8) rfl;have y9:=He.1.cell (j:=9) rfl;have yA:=He.1.cell (j:=10) rfl;have yB:=He.1.cell (j:=11) rfl;go_simp;(with_reducible rfl)
 simp only[List.getElem_toArray,List.getElem_cons_zero,Act.put,List.setIfInBounds_toArray,List.set_cons_zero,List.set_cons_succ];refine rg_t 1 hS ?_;simp only[g_S];refine rg_t 2 hS ?_;simp only[g_S];refine rg_t 3 hS ?_;simp only[g_S];refine ze 4 (v:=?_) rfl Wj Wj Wj hS rfl ?_ ?_;rotate_left
 ·intro wS He;have y0:=He.2;go_simp;(with_reducible rfl)
 simp only[g_S];refine zj 5 rfl Wj rfl (fun K hK=>?_)
 first
 | have qq2o:=qq2o
   refine zK (g:=zb) (j:=0) (v:=.agg #[.bool false,.int .u64 (x:Int),.string ⟨#[]⟩,.int .u32 0,.string ⟨#[]⟩,.string ⟨#[]⟩,.slice none 0 0,.int .u8 0,.int .u64 0,.string ⟨#[]⟩,.slice none 0 0,.slice none 0 0]) (vs:=(#[.bool false,.int .u64 (x:Int),.string ⟨#[]⟩,.int .u32 0,.string ⟨#[]⟩,.string ⟨#[]⟩,.slice none 0 0,.int .u8 0,.int .u64 0,.string ⟨#[]⟩,.slice none 0 0,.slice none 0 0]).toList) rfl rfl rfl eZ rfl Wj Wz vp #[.bool false,.int .u64 (x:Int),.string ⟨#[]⟩,.int .u32 0,.string ⟨#[]⟩,.string ⟨#[]⟩,.slice none 0 0,.int .u8 0,.int .u64 0,.string ⟨#[]⟩,.slice none 0 0,.slice none 0 0] Wz ?_
 | have qq2n:=qq2n
   refine zK (g:=zb) (j:=0) (v:=.agg #[.bool false,.int .u64 (x:Int),.string ⟨#[]⟩,.int .u32 0,.string ⟨#[]⟩,.string ⟨#[]⟩,.slice none 0 0,.int .u8 0,.int .u64 0,.string ⟨#[]⟩,.slice none 0 0,.slice none 0 0]) (vs:=(#[.bool false,.int .u64 (x:Int),.string ⟨#[]⟩,.int .u32 0,.string ⟨#[]⟩,.string ⟨#[]⟩,.slice none 0 0,.int .u8 0,.int .u64 0,.string ⟨#[]⟩,.slice none 0 0,.slice none 0 0]).toList) rfl rfl rfl eZ rfl Wj Wz vp #[.bool false,.int .u64 (x:Int),.string ⟨#[]⟩,.int .u32 0,.string ⟨#[]⟩,.string ⟨#[]⟩,.slice none 0 0,.int .u8 0,.int .u64 0,.string ⟨#[]⟩,.slice none 0 0,.slice none 0 0] Wz ?_
 | have qq2m:=qq2m
   refine zK (g:=zb) (j:=0) (v:=.agg #[.bool false,.int .u64 (x:Int),.string ⟨#[]⟩,.int .u32 0,.string ⟨#[]⟩,.string ⟨#[]⟩,.slice none 0 0,.int .u8 0,.int .u64 0,.string ⟨#[]⟩,.slice none 0 0,.slice none 0 0]) (vs:=(#[.bool false,.int .u64 (x:Int),.string ⟨#[]⟩,.int .u32 0,.string ⟨#[]⟩,.string ⟨#[]⟩,.slice none 0 0,.int .u8 0,.int .u64 0,.string ⟨#[]⟩,.slice none 0 0,.slice none 0 0]).toList) rfl rfl rfl eZ rfl Wj Wz vp #[.bool false,.int .u64 (x:Int),.string ⟨#[]⟩,.int .u32 0,.string ⟨#[]⟩,.string ⟨#[]⟩,.slice none 0 0,.int .u8 0,.int .u64 0,.string ⟨#[]⟩,.slice none 0 0,.slice none 0 0] Wz ?_
 | refine zK (g:=zb) (j:=0) (v:=.agg #[.bool false,.int .u64 0,.string (str x),.int .u32 0,.string ⟨#[]⟩,.string ⟨#[]⟩,.slice none 0 0,.int .u8 0,.int .u64 0,.string ⟨#[]⟩,.slice none 0 0,.slice none 0 0]) (vs:=(#[.bool false,.int .u64 0,.string (str x),.int .u32 0,.string ⟨#[]⟩,.string ⟨#[]⟩,.slice none 0 0,.int .u8 0,.int .u64 0,.string ⟨#[]⟩,.slice none 0 0,.slice none 0 0]).toList) rfl rfl rfl eZ rfl Wj Wz vp #[.bool false,.int .u64 0,.string (str x),.int .u32 0,.string ⟨#[]⟩,.string ⟨#[]⟩,.slice none 0 0,.int .u8 0,.int .u64 0,.string ⟨#[]⟩,.slice none 0 0,.slice none 0 0] Wz ?_
 intro we oS cf _
 first
 | have qq2o:=qq2o
   have BI:Box we ab 80 #[.bool false,.int .u64 (x:Int),.string ⟨#[]⟩,.int .u32 0,.string ⟨#[]⟩,.string ⟨#[]⟩,.slice none 0 0,.int .u8 0,.int .u64 0,.string ⟨#[]⟩,.slice none 0 0,.slice none 0 0]∧we.cell? ⟨ob,0,none⟩=some (.slice A2 l2.length c2):=⟨hS.1.grown cf (sne Wq),cf.cell hS.2 mz⟩
 | have qq2n:=qq2n
   have BI:Box we ab 80 #[.bool false,.int .u64 (x:Int),.string ⟨#[]⟩,.int .u32 0,.string ⟨#[]⟩,.string ⟨#[]⟩,.slice none 0 0,.int .u8 0,.int .u64 0,.string ⟨#[]⟩,.slice none 0 0,.slice none 0 0]∧we.cell? ⟨ob,0,none⟩=some (.slice A2 l2.length c2):=⟨hS.1.grown cf (sne Wq),cf.cell hS.2 mz⟩
 | have qq2m:=qq2m
   have BI:Box we ab 80 #[.bool false,.int .u64 (x:Int),.string ⟨#[]⟩,.int .u32 0,.string ⟨#[]⟩,.string ⟨#[]⟩,.slice none 0 0,.int .u8 0,.int .u64 0,.string ⟨#[]⟩,.slice none 0 0,.slice none 0 0]∧we.cell? ⟨ob,0,none⟩=some (.slice A2 l2.length c2):=⟨hS.1.grown cf (sne Wq),cf.cell hS.2 mz⟩
 | have BI:Box we ab 80 #[.bool false,.int .u64 0,.string (str x),.int .u32 0,.string ⟨#[]⟩,.string ⟨#[]⟩,.slice none 0 0,.int .u8 0,.int .u64 0,.string ⟨#[]⟩,.slice none 0 0,.slice none 0 0]∧we.cell? ⟨ob,0,none⟩=some (.slice A2 l2.length c2):=⟨hS.1.grown cf (sne Wq),cf.cell hS.2 mz⟩
 have iQ:=bc.grown cf bc.size Wx;have oQ:=nO.keep (w':=we) (fun g hg=>cf.block g (by have:=bc.size;have:=hS.1.lt;omega) (by intro e;injection e with e;have:=mK g hg;omega)) cf.size;refine hK _ _ BI ?_;clear hK K;try simp only[g_S]
 refine rg_t 6 BI ?_;simp only[g_S];refine zz Wj ?_;go_wp2_with(with_reducible refine h_A ?_);refine zG rfl oS rfl rfl underlying80 rfl Wj rfl ?_
 first
 | have qq2o:=qq2o
   refine⟨⟨false,x,[],xd0,[],vl0⟩,ah0,A2,l2.length,c2,l2,rfl,⟨hlt,(RA.zero we (FN w.heap.size we) true).s,(RA.zero we (FN w.heap.size we) true).x,(RA.zero we (FN w.heap.size we) true).q,(RA.zero we (FN w.heap.size we) true).ok,(RA.zero we (FN w.heap.size we) true).c,(RA.zero we (FN w.heap.size we) true).v⟩,oQ.mono (fun g hg=>.inr ⟨by omega,by have:=bc.size;have:=cf.size;have:=hS.1.lt;omega⟩),by omega,iQ,rfl,HT.out⟩
 | have qq2n:=qq2n
   refine⟨⟨false,x,[],xd0,[],vl0⟩,ah0,A2,l2.length,c2,l2,rfl,⟨hlt,(RA.zero we (FN w.heap.size we) true).s,(RA.zero we (FN w.heap.size we) true).x,(RA.zero we (FN w.heap.size we) true).q,(RA.zero we (FN w.heap.size we) true).ok,(RA.zero we (FN w.heap.size we) true).c,(RA.zero we (FN w.heap.size we) true).v⟩,oQ.mono (fun g hg=>.inr ⟨by omega,by have:=bc.size;have:=cf.size;have:=hS.1.lt;omega⟩),by omega,iQ,rfl,HT.out⟩
 | have qq2m:=qq2m
   refine⟨⟨false,x,[],xd0,[],vl0⟩,ah0,A2,l2.length,c2,l2,rfl,⟨hlt,(RA.zero we (FN w.heap.size we) true).s,(RA.zero we (FN w.heap.size we) true).x,(RA.zero we (FN w.heap.size we) true).q,(RA.zero we (FN w.heap.size we) true).ok,(RA.zero we (FN w.heap.size we) true).c,(RA.zero we (FN w.heap.size we) true).v⟩,oQ.mono (fun g hg=>.inr ⟨by omega,by have:=bc.size;have:=cf.size;have:=hS.1.lt;omega⟩),by omega,iQ,rfl,HT.out⟩
 | refine⟨⟨false,0,x,xd0,[],vl0⟩,ah0,A2,l2.length,c2,l2,rfl,⟨(RA.zero we (FN w.heap.size we) true).n,(by show x.length≤_;omega),(RA.zero we (FN w.heap.size we) true).x,(RA.zero we (FN w.heap.size we) true).q,(RA.zero we (FN w.heap.size we) true).ok,(RA.zero we (FN w.heap.size we) true).c,(RA.zero we (FN w.heap.size we) true).v⟩,oQ.mono (fun g hg=>.inr ⟨by omega,by have:=bc.size;have:=cf.size;have:=hS.1.lt;omega⟩),by omega,iQ,rfl,HT.out⟩):p:=h
theorem Z4m_(h:p:=by
 go_wp2_with(with_reducible refine h_A ?_);refine fa.mono ?_;rintro e w1 ⟨rfl,Ha⟩;go_wp2_with(with_reducible refine h_A ?_);go_ret2
 exact⟨none,0,rfl,Own.none_ _ _ _ _,Ha⟩):p:=h
theorem Zd_(h:p:=by
 have hl:=hr.length;first|(have qq2t:=qq2t;have fa:=Yr A n c l B w hr hb hB Wq)|(have fa:=Xv A n c l B w hr hb hB Wq)
 cases B2:zV l
 ·rw[B2]at fa;have e1:yL l=[]:=by simp[yL,B2]
  have e2:ye l=30:=by simp[ye,B2]
  rw[e1,e2];first|(have qq2t:=qq2t;go_enter func97,ntmps97)|(go_enter func104,ntmps104)
  exact Z4m_
 rw[B2]at fa;by_cases Il:1000<n
 ·have e1:yL l=[]:=by simp[yL];omega
  have e2:ye l=6:=by simp[ye,B2];omega
  rw[e1,e2];have hd:(1000:Int)<(n:Int):=by omega
  clear B2 e1 e2;first|(have qq2t:=qq2t;go_enter func97,ntmps97)|(go_enter func104,ntmps104)
  exact Z4m_
 have e1:yL l=be 2 (8*n)++yf l:=by rw[yL,if_pos ⟨B2,by omega⟩,hl]
 have e2:ye l=0:=by rw[ye,if_pos B2,if_pos Wq]
 rw[e1,e2];have hd:¬(1000:Int)<(n:Int):=by omega
 clear B2 e1 e2;first|(have qq2t:=qq2t;go_enter func97,ntmps97)|(go_enter func104,ntmps104)
 go_wp2_with(with_reducible refine h_A ?_);refine fa.mono ?_;rintro e w1 ⟨rfl,Ha⟩;have NE:IntKind.i64.wrap (8*(n:Int))=((8*n:Nat):Int):=by rw[IntWalk.i64_in _ ⟨by omega,by omega⟩];omega
 have S1:IntKind.u64.wrap ((8*n:Nat):Int)=((8*n:Nat):Int):=IntWalk.u64_in _ ⟨by omega,by omega⟩
 first
 | have qq2t:=qq2t
   have fW:=yd (8*n) 2 w1 Wq Wq
 | have fW:=yP none 0 0 [] (8*n) 2 w1 (Rd.nil _ _ _ _ WX _) Wq Wq
   rw[put2,List.nil_append]at fW
 obtain⟨n8,pn⟩:∃n8,n8=8*n:=⟨_,rfl⟩
 rw[←pn]at NE S1 fW;have PZ:=Lib.hid pn;clear pn;go_wp2_with(with_reducible refine h_A ?_);refine fW.mono ?_;rintro e w2 ⟨A2,c2,rfl,bW,Hc⟩;have H3:=Ha.trans (Hc.mono Ha.size);have oY:=bW.base_le Ha.size;rw[PZ.out]at oY;first|done|(have qq2t:=qq2t)|(rw[zr]at oY ⊢)
 clear bW Ha Hc fW;go_wp2_with(with_reducible refine h_A ?_)
 first
 | have qq2t:=qq2t
   go_loopw [5,4] (fun s v wr=>∃(k N c2:Nat) (A2:Option Addr) (out:List UInt8),k≤n∧s= .int .i64 k∧v= .slice A2 N c2∧N=2+8*k∧out=be 2 (8*n)++yf (l.take k)∧Own wr w.heap.size 5 1 A2 N c2 (out.map u8v)∧Below w.heap.size w wr) (fun s _ _=>n-(intOf s).toNat)
 | go_loopw [20,4] (fun s v wr=>∃(k N c2:Nat) (A2:Option Addr) (out:List UInt8),k≤n∧s= .int .i64 k∧v= .slice A2 N c2∧N=2+8*k∧out=be 2 (8*n)++yf (l.take k)∧Own wr w.heap.size 5 1 A2 N c2 (out.map u8v)∧Below w.heap.size w wr) (fun s _ _=>n-(intOf s).toNat)
 case atStart=>exact⟨0,2,c2,A2,be 2 (8*n),by omega,rfl,rfl,by omega,by simp[yf],oY,H3⟩
 clear oY H3;obtain⟨k,N,c2,A2,out,hk,rfl,rfl,hN,cO,ho,bP⟩:=hrel;by_cases hlt:k<n
 ·obtain⟨b,off,rfl,dx,bI,gV,ca⟩:=RdS.at_k (hr.below (bP.mono hB)) hlt;have lf:=hb l[k] (List.getElem_mem bI);have dR:=vS bI;have HN:Hid (be 2 (8*n)++yf (l.take (k+1))=(out++be 4 l[k].1)++be 4 l[k].2):=Lib.hid (by rw[dR,cO];simp);clear dR cO
  first
  | have qq2t:=qq2t
    generalize l[k].1=f at*;generalize l[k].2=t at*
    have ei:b<wr.heap.size:=World.block_lt_of_cell? wr _ gV
  | skip
  have uN:=Lib.hid hN;have Mk:N≤10000:=by omega
  clear hN
  first
  | have qq2t:=qq2t
    go_wp2_with(with_reducible refine h_A ?_);refine(yd f 4 wr Wq Wq).mono ?_;rintro e w3 ⟨A3,c3,rfl,Bv,Hh⟩;have gx:=bP.trans (Hh.mono bP.size);have AO:=zh ho Hh;go_wp2_with(with_reducible refine h_A ?_);refine zc (yc slB rfl rfl rfl rfl AO Bv.rd (zM _) Wq UJ gx.size ?_);intro A4 c4 w4 Bq Ba _;have Hn:=gx.grown Ba gx.size (fun g hg=>(AO.blk_lt hg).1);rw[←List.map_append]at Bq
    have R0:w4.cell? ⟨b,off+k*2+1,none⟩=some (.int .u32 (t:Int)):=by
     have h1:=(Hh.cell (p:=⟨b,off+k*2+1,none⟩) ei).trans ca;refine Ba.cell h1 (fun e=>?_);have h2:=(AO.blk_lt e.symm).1;(have h3:b<w.heap.size:=by omega);exact absurd h2 (by show ¬w.heap.size≤b;omega)
    clear Ba AO Bv gV ca
  | generalize l[k].1=f at*
    generalize l[k].2=t at*;have Hc:Below w.heap.size w (wr.alloc (.cells #[.int .u32 (f:Int),.int .u32 (t:Int)] 208)):=bP.alloc bP.size _;have bW:Own (wr.alloc (.cells #[.int .u32 (f:Int),.int .u32 (t:Int)] 208)) w.heap.size 5 1 A2 N c2 (out.map u8v):=ho.alloc _;have hq:(wr.alloc (.cells #[.int .u32 (f:Int),.int .u32 (t:Int)] 208)).drew.cell? ⟨wr.heap.size,0,none⟩=some (.int .u32 (f:Int))∧(wr.alloc (.cells #[.int .u32 (f:Int),.int .u32 (t:Int)] 208)).drew.cell? ⟨wr.heap.size,1,none⟩=some (.int .u32 (t:Int)):=⟨World.cell?_alloc_new _ _ _ _,World.cell?_alloc_new _ _ _ _⟩
  go_wp2_with(with_reducible refine h_A ?_)
  first
  | have qq2t:=qq2t
    refine(yd t 4 w4 Wq Wq).mono ?_
  | have gG:IntKind.u64.wrap ((f:Nat):Int)=(f:Int):=IntWalk.u64_in _ ⟨by omega,by omega⟩
    have hwt:IntKind.u64.wrap ((t:Nat):Int)=(t:Int):=IntWalk.u64_in _ ⟨by omega,by omega⟩;refine zt (fun wx=>wx.cell? ⟨wr.heap.size,0,none⟩=some (.int .u32 (f:Int))∧wx.cell? ⟨wr.heap.size,1,none⟩=some (.int .u32 (t:Int))) Wj ?_;refine rg_t 0 hq ?_;simp only[List.getElem_toArray,List.getElem_cons_zero,Act.put,List.setIfInBounds_toArray,List.set_cons_zero,List.set_cons_succ];refine rg_t 1 hq ?_;simp only[g_S];refine rg_t 2 hq ?_;simp only[g_S];refine rg_t 3 hq ?_;simp only[g_S];refine rg_t 5 hq ?_;simp only[g_S];refine rg_t 6 hq ?_;simp only[g_S];refine rg_t 7 hq ?_;simp only[g_S];have rj:=za Hc 1
    have df:∀w4:World,Below (wr.alloc (.cells #[.int .u32 (f:Int),.int .u32 (t:Int)] 208)).drew.heap.size (wr.alloc (.cells #[.int .u32 (f:Int),.int .u32 (t:Int)] 208)).drew w4→w4.cell? ⟨wr.heap.size,0,none⟩=some (.int .u32 (f:Int))∧w4.cell? ⟨wr.heap.size,1,none⟩=some (.int .u32 (t:Int)):=fun w4 hb=>
     ⟨(hb.cell (p:=⟨wr.heap.size,0,none⟩) (World.block_lt_of_cell? _ _ hq.1)).trans hq.1,(hb.cell (p:=⟨wr.heap.size,1,none⟩) (World.block_lt_of_cell? _ _ hq.2)).trans hq.2⟩
    have mp:=yP A2 N c2 out f 4 (wr.alloc (.cells #[.int .u32 (f:Int),.int .u32 (t:Int)] 208)).drew bW.rd.drew Wq Wq;have fC:out.length=N:=RdB.length ho.rd;(have Mn:(out++be 4 f).length=N+4:=by simp[zr,fC]);(have G8:((out++be 4 f)++be 4 t).length=N+8:=by simp[zr,fC]);rw[put4,Mn]at mp;refine zj 4 rfl Wj rfl (fun K hK=>?_);go_simp;refine mp.mono ?_;rintro e w4 ⟨A4,c4,rfl,Bq,Hn⟩;have sZ:=df _ Hn;have nf:=rj.trans (Hn.mono rj.size);have sF:=Bq.base_le rj.size;have C5:=yP A4 (N+4) c4 (out++be 4 f) t 4 w4 Bq.rd Wq Wq;rw[put4,G8]at C5;refine hK _ _ sZ ?_;clear hK K;refine zj 8 rfl Wj rfl (fun K hK=>?_);go_simp;refine C5.mono ?_
  rintro e w5 ⟨A5,c5,rfl,ct,bw⟩
  first
  | have qq2t:=qq2t
    have Er:=Hn.trans (bw.mono Hn.size);have I4:=zh Bq bw;go_wp2_with(with_reducible refine h_A ?_);refine zc (yc slB rfl rfl rfl rfl I4 ct.rd (zM _) Wq UJ Er.size ?_);intro A6 c6 w6 bR bz _;have bG:=Er.grown bz Er.size (fun g hg=>(I4.blk_lt hg).1)
    rw[←List.map_append]at bR
  | have pS:w5.cell? ⟨wr.heap.size,0,none⟩=some (.int .u32 (f:Int))∧w5.cell? ⟨wr.heap.size,1,none⟩=some (.int .u32 (t:Int)):=⟨(bw.cell (p:=⟨wr.heap.size,0,none⟩) (World.block_lt_of_cell? _ _ sZ.1)).trans sZ.1,(bw.cell (p:=⟨wr.heap.size,1,none⟩) (World.block_lt_of_cell? _ _ sZ.2)).trans sZ.2⟩
    have PY:=nf.trans (bw.mono nf.size);have lF:=ct.base_le nf.size;refine hK _ _ pS ?_;clear hK K;refine rg_t 9 pS ?_;simp only[g_S];refine zz Wj ?_
  go_wp2_with(with_reducible refine h_A ?_);have tq:=uN.out;first|(have qq2t:=qq2t;exact⟨⟨k+1,N+4+4,c6,A6,(out++be 4 f)++be 4 t,by omega,by go_num,rfl,by omega,HN.out.symm,bR,bG⟩,by simp[intOf];omega⟩)|(exact⟨⟨k+1,N+8,c5,A5,(out++be 4 f)++be 4 t,by omega,by go_num,rfl,by omega,HN.out.symm,lF,PY⟩,by simp[intOf];omega⟩)
 obtain rfl:k=n:=by omega
 have HO:Hid (out=be 2 (8*k)++yf l):=Lib.hid (by rw[cO,List.take_of_length_le Wq]);clear cO;have bQ:(be 2 (8*k)++yf l).length=N:=by rw[←HO.out];exact RdB.length ho.rd
 have HL:=Lib.hid bQ;clear bQ;go_wp2_with(with_reducible refine h_A ?_);go_ret2;rw[HL.out,←HO.out]
 exact⟨A2,c2,rfl,ho,bP⟩):p:=h
theorem Ze_(h:p:=by
 first
 | have qq2y:=qq2y
   have cp:∀W,Below base w W→Calls prog 106 #[.agg #[.bool a.is,.int .u64 (a.n:Int),.string (str a.s),.int .u32 (a.x.fmt:Int),.string (str a.x.glob),.string (str a.x.bran),.slice h.A a.q.length h.c,.int .u8 (a.v.kind:Int),.int .u64 (a.v.n:Int),.string (str a.v.s),.slice h.h.A1 a.v.keys.length h.h.c1,.slice h.h.A2 a.v.list.length h.h.c2],.agg #[.bool a.is,.int .u64 0,.string ⟨#[]⟩,.int .u32 0,.string ⟨#[]⟩,.string ⟨#[]⟩,.slice none 0 0,.int .u8 0,.int .u64 0,.string ⟨#[]⟩,.slice none 0 0,.slice none 0 0]] W (fun e w'=>e= .returned (.bool (zy a (ag0 a.is)))∧Below W.heap.size W w'):=fun W hW=>xJ a (ag0 a.is) h ah0 W ((ha.under hW).mono (fun g hg=>Nat.lt_of_lt_of_le hg (Nat.le_trans Hf hW.size))) (((RA.zero w _ a.is:RA w (fun g=>g<base) (ag0 a.is) ah0).under hW).mono (fun g hg=>Nat.lt_of_lt_of_le hg (Nat.le_trans Hf hW.size)))
   generalize AL:zy a (ag0 a.is)=sr at cp
 | have qq2x:=qq2x
   have mW:(a.x.put).length≤2000000:=Zz _;(have B6:=fun W (hW:Below w.heap.size w W)=>Va a.x W ha.x);have cp:∀W,Below base w W→Calls prog 106 #[.agg #[.bool a.is,.int .u64 (a.n:Int),.string (str a.s),.int .u32 (a.x.fmt:Int),.string (str a.x.glob),.string (str a.x.bran),.slice h.A a.q.length h.c,.int .u8 (a.v.kind:Int),.int .u64 (a.v.n:Int),.string (str a.v.s),.slice h.h.A1 a.v.keys.length h.h.c1,.slice h.h.A2 a.v.list.length h.h.c2],.agg #[.bool true,.int .u64 0,.string ⟨#[]⟩,.int .u32 (a.x.fmt:Int),.string (str a.x.glob),.string (str a.x.bran),.slice none 0 0,.int .u8 0,.int .u64 0,.string ⟨#[]⟩,.slice none 0 0,.slice none 0 0]] W (fun e w'=>e= .returned (.bool (zy a (agX a)))∧Below W.heap.size W w'):=fun W hW=>xJ a (agX a) h ah0 W ((ha.under hW).mono (fun g hg=>Nat.lt_of_lt_of_le hg (Nat.le_trans Hf hW.size))) (((RA.ofX ha:RA w (fun g=>g<base) (agX a) ah0).under hW).mono (fun g hg=>Nat.lt_of_lt_of_le hg (Nat.le_trans Hf hW.size)))
   generalize AL:zy a (agX a)=sr at cp
 | have qq2w:=qq2w
   have mW:(yL a.q).length≤2000000:=ZA _;(have B6:=fun W (hW:Below w.heap.size w W)=>Vd h.A a.q.length h.c a.q w.heap.size W (ha.q.1.below hW) ha.ok hW.size ha.c);have cp:∀W,Below base w W→Calls prog 106 #[.agg #[.bool a.is,.int .u64 (a.n:Int),.string (str a.s),.int .u32 (a.x.fmt:Int),.string (str a.x.glob),.string (str a.x.bran),.slice h.A a.q.length h.c,.int .u8 (a.v.kind:Int),.int .u64 (a.v.n:Int),.string (str a.v.s),.slice h.h.A1 a.v.keys.length h.h.c1,.slice h.h.A2 a.v.list.length h.h.c2],.agg #[.bool true,.int .u64 0,.string ⟨#[]⟩,.int .u32 0,.string ⟨#[]⟩,.string ⟨#[]⟩,.slice h.A a.q.length h.c,.int .u8 0,.int .u64 0,.string ⟨#[]⟩,.slice none 0 0,.slice none 0 0]] W (fun e w'=>e= .returned (.bool (zy a (agQ a)))∧Below W.heap.size W w'):=fun W hW=>xJ a (agQ a) h (ahQ h) W ((ha.under hW).mono (fun g hg=>Nat.lt_of_lt_of_le hg (Nat.le_trans Hf hW.size))) (((RA.ofQ ha:RA w (fun g=>g<base) (agQ a) (ahQ h)).under hW).mono (fun g hg=>Nat.lt_of_lt_of_le hg (Nat.le_trans Hf hW.size)))
   generalize AL:zy a (agQ a)=sr at cp
 | have qq2v:=qq2v
   have mW:(zP [] a.s 2).length≤2000000:=Zy _;(have B6:=fun W (hW:Below w.heap.size w W)=>qB none 0 0 [] a.s 2 W (Rd.nil _ _ _ _ WX _) ha.s Wq);have cp:∀W,Below base w W→Calls prog 106 #[.agg #[.bool a.is,.int .u64 (a.n:Int),.string (str a.s),.int .u32 (a.x.fmt:Int),.string (str a.x.glob),.string (str a.x.bran),.slice h.A a.q.length h.c,.int .u8 (a.v.kind:Int),.int .u64 (a.v.n:Int),.string (str a.v.s),.slice h.h.A1 a.v.keys.length h.h.c1,.slice h.h.A2 a.v.list.length h.h.c2],.agg #[.bool true,.int .u64 0,.string (str a.s),.int .u32 0,.string ⟨#[]⟩,.string ⟨#[]⟩,.slice none 0 0,.int .u8 0,.int .u64 0,.string ⟨#[]⟩,.slice none 0 0,.slice none 0 0]] W (fun e w'=>e= .returned (.bool (zy a (agS a)))∧Below W.heap.size W w'):=fun W hW=>xJ a (agS a) h ah0 W ((ha.under hW).mono (fun g hg=>Nat.lt_of_lt_of_le hg (Nat.le_trans Hf hW.size))) (((RA.ofS ha:RA w (fun g=>g<base) (agS a) ah0).under hW).mono (fun g hg=>Nat.lt_of_lt_of_le hg (Nat.le_trans Hf hW.size)))
   generalize AL:zy a (agS a)=sr at cp
 | have qq2u:=qq2u
   have mW:(zP [] a.s 1).length≤2000000:=Zx _;(have B6:=fun W (hW:Below w.heap.size w W)=>qB none 0 0 [] a.s 1 W (Rd.nil _ _ _ _ WX _) ha.s Wq);have cp:∀W,Below base w W→Calls prog 106 #[.agg #[.bool a.is,.int .u64 (a.n:Int),.string (str a.s),.int .u32 (a.x.fmt:Int),.string (str a.x.glob),.string (str a.x.bran),.slice h.A a.q.length h.c,.int .u8 (a.v.kind:Int),.int .u64 (a.v.n:Int),.string (str a.v.s),.slice h.h.A1 a.v.keys.length h.h.c1,.slice h.h.A2 a.v.list.length h.h.c2],.agg #[.bool true,.int .u64 0,.string (str a.s),.int .u32 0,.string ⟨#[]⟩,.string ⟨#[]⟩,.slice none 0 0,.int .u8 0,.int .u64 0,.string ⟨#[]⟩,.slice none 0 0,.slice none 0 0]] W (fun e w'=>e= .returned (.bool (zy a (agS a)))∧Below W.heap.size W w'):=fun W hW=>xJ a (agS a) h ah0 W ((ha.under hW).mono (fun g hg=>Nat.lt_of_lt_of_le hg (Nat.le_trans Hf hW.size))) (((RA.ofS ha:RA w (fun g=>g<base) (agS a) ah0).under hW).mono (fun g hg=>Nat.lt_of_lt_of_le hg (Nat.le_trans Hf hW.size)))
   generalize AL:zy a (agS a)=sr at cp
 | have mW:(vlP a.v).length≤2000000:=Xj _
   (have B6:=fun W (hW:Below w.heap.size w W)=>JP a.v h.h W ((ha.v.keep (fun g hg=>hW.block g (Nat.lt_of_lt_of_le hg Hf)) hW.size).mono (fun g hg=>Nat.lt_of_lt_of_le hg (Nat.le_trans Hf hW.size))) (hT.on hW));(have cp:∀W,Below base w W→Calls prog 106 #[.agg #[.bool a.is,.int .u64 (a.n:Int),.string (str a.s),.int .u32 (a.x.fmt:Int),.string (str a.x.glob),.string (str a.x.bran),.slice h.A a.q.length h.c,.int .u8 (a.v.kind:Int),.int .u64 (a.v.n:Int),.string (str a.v.s),.slice h.h.A1 a.v.keys.length h.h.c1,.slice h.h.A2 a.v.list.length h.h.c2],.agg #[.bool true,.int .u64 0,.string ⟨#[]⟩,.int .u32 0,.string ⟨#[]⟩,.string ⟨#[]⟩,.slice none 0 0,.int .u8 (a.v.kind:Int),.int .u64 (a.v.n:Int),.string (str a.v.s),.slice h.h.A1 a.v.keys.length h.h.c1,.slice h.h.A2 a.v.list.length h.h.c2]] W (fun e w'=>e= .returned (.bool (zy a (agX2 a)))∧Below W.heap.size W w'):=fun W hW=>xJ a (agX2 a) h (ahV h) W ((ha.under hW).mono (fun g hg=>Nat.lt_of_lt_of_le hg (Nat.le_trans Hf hW.size))) (((RA.ofV ha:RA w (fun g=>g<base) (agX2 a) (ahV h)).under hW).mono (fun g hg=>Nat.lt_of_lt_of_le hg (Nat.le_trans Hf hW.size))));generalize AL:zy a (agX2 a)=sr at cp
 have lG:=Lib.hid cp;clear cp
 first
 | done
 | have qq2y:=qq2y
 | have qq2x:=qq2x
   generalize a.x.put=M at*;generalize((a.x.err:Nat):Int)=E at*;unfold xdV at B6;have rG:=Lib.hid B6;clear B6;(obtain⟨ok,bJ⟩:∃ok,ok=(decide (E=0)&&sr):=⟨_,rfl⟩);rw[←bJ];have Bz:=Lib.hid bJ
   clear bJ
 | have qq2w:=qq2w
   generalize yL a.q=M at*;generalize((ye a.q:Nat):Int)=E at*
   skip
   have rG:=Lib.hid B6;clear B6;(obtain⟨ok,bJ⟩:∃ok,ok=(decide (E=0)&&sr):=⟨_,rfl⟩);rw[←bJ];have Bz:=Lib.hid bJ
   clear bJ
 | have qq2v:=qq2v
   generalize zP [] a.s 2=M at*;generalize zE a.s.length 2=E at*
   skip
   have rG:=Lib.hid B6;clear B6;(obtain⟨ok,bJ⟩:∃ok,ok=(decide (E=0)&&sr):=⟨_,rfl⟩);rw[←bJ];have Bz:=Lib.hid bJ
   clear bJ
 | have qq2u:=qq2u
   generalize zP [] a.s 1=M at*;generalize zE a.s.length 1=E at*
   skip
   have rG:=Lib.hid B6;clear B6;(obtain⟨ok,bJ⟩:∃ok,ok=(decide (E=0)&&sr):=⟨_,rfl⟩);rw[←bJ];have Bz:=Lib.hid bJ
   clear bJ
 | generalize vlP a.v=M at*
   generalize errV a.v=E at*;unfold vlV at B6;have rG:=Lib.hid B6;clear B6;(obtain⟨ok,bJ⟩:∃ok,ok=(decide (E=0)&&sr):=⟨_,rfl⟩);rw[←bJ];have Bz:=Lib.hid bJ;clear bJ
 obtain⟨ab,rb,v0,dV,eC,bo,bh,bU,Hy⟩:=qQ w #[.bool a.is,.int .u64 (a.n:Int),.string (str a.s),.int .u32 (a.x.fmt:Int),.string (str a.x.glob),.string (str a.x.bran),.slice h.A a.q.length h.c,.int .u8 (a.v.kind:Int),.int .u64 (a.v.n:Int),.string (str a.v.s),.slice h.h.A1 a.v.keys.length h.h.c1,.slice h.h.A2 a.v.list.length h.h.c2] #[.bool true,.int .u64 0,.string ⟨#[]⟩,.int .u32 0,.string ⟨#[]⟩,.string ⟨#[]⟩,.slice none 0 0,.int .u8 0,.int .u64 0,.string ⟨#[]⟩,.slice none 0 0,.slice none 0 0] 80;have Bo:w.heap.size≤ab:=by omega
 have tL:ab<rb:=by omega
 have Bb:∀g,blk A=some g→g<ab:=fun g hg=>by have:=(Hl.blk_lt hg).2;omega
 have eW:∀g,blk A=some g→base≤g:=fun g hg=>(Hl.blk_lt hg).1
 have H4:=zh Hl Hy;have HU:Below w.heap.size w v0:=Hy;have cg:=bU.lt;have fe:=cg;have cW:l.length=n:=RdB.length Hl.rd;unfold agV;have HA:=Lib.hid ha;clear ha;go_enter func71,ntmps71;go_upto_region 2 with fail;rw[←eC,←dV,←bo];clear dV eC bo Hl Hy
 first
 | have qq2y:=qq2y
   have Hs:=bh;have dH:=bU;have BM:=H4;have Ha:=HU;have cV:OwnB v0 v0.heap.size none 0 0 []:=Own.none_ _ _ _ _
   clear bh bU H4 HU
 | have B6:=rG.out v0 HU
   have x0:=bh.c0;have x1:=bh.c1;have x2:=bh.c2;have x3:=bh.c3;have x4:=bh.c4;have x5:=bh.c5;have x6:=bh.c6;have x7:=bh.c7;have x8:=bh.c8;have x9:=bh.c9;have xA:=bh.c10;have xB:=bh.c11;go_wp2_with(with_reducible refine h_B ?_);refine B6.mono ?_;rintro e w1 ⟨A1,c1,rfl,cV,By⟩;have Hs:=bh.below By;have dH:=bU.below By;have BM:=zh H4 By;have Ha:=HU.trans (By.mono HU.size);have fe:rb<v0.heap.size:=cg;clear bh bU H4 HU By B6 rG;clear x0 x1 x2 x3 x4 x5 x6 x7 x8 x9 xA xB
 have x0:=Hs.c0;have x1:=Hs.c1;have x2:=Hs.c2;have x3:=Hs.c3;have x4:=Hs.c4;have x5:=Hs.c5;have x6:=Hs.c6;have x7:=Hs.c7;have x8:=Hs.c8;have x9:=Hs.c9;have xA:=Hs.c10;have xB:=Hs.c11;go_wp2_with(with_reducible refine h_B ?_)
 first
 | have qq2y:=qq2y
   refine zc (zn (v:=.bool a.is) (vs:=[.bool a.is]) rfl rfl rfl rfl dH rfl Wj Wz UZ #[.bool a.is,.int .u64 0,.string ⟨#[]⟩,.int .u32 0,.string ⟨#[]⟩,.string ⟨#[]⟩,.slice none 0 0,.int .u8 0,.int .u64 0,.string ⟨#[]⟩,.slice none 0 0,.slice none 0 0] Wz ?_)
 | have qq2x:=qq2x
   refine zc (zn (v:=.agg #[.int .u32 (a.x.fmt:Int),.string (str a.x.glob),.string (str a.x.bran)]) (vs:=[.int .u32 (a.x.fmt:Int),.string (str a.x.glob),.string (str a.x.bran)]) rfl rfl rfl rfl dH rfl Wj Wz mj #[.bool true,.int .u64 0,.string ⟨#[]⟩,.int .u32 (a.x.fmt:Int),.string (str a.x.glob),.string (str a.x.bran),.slice none 0 0,.int .u8 0,.int .u64 0,.string ⟨#[]⟩,.slice none 0 0,.slice none 0 0] Wz ?_)
 | have qq2w:=qq2w
   refine zc (zn (v:=.slice h.A a.q.length h.c) (vs:=[.slice h.A a.q.length h.c]) rfl rfl rfl rfl dH rfl Wj Wz UZ #[.bool true,.int .u64 0,.string ⟨#[]⟩,.int .u32 0,.string ⟨#[]⟩,.string ⟨#[]⟩,.slice h.A a.q.length h.c,.int .u8 0,.int .u64 0,.string ⟨#[]⟩,.slice none 0 0,.slice none 0 0] Wz ?_)
 | have qq2v:=qq2v
   refine zc (zn (v:=.string (str a.s)) (vs:=[.string (str a.s)]) rfl rfl rfl rfl dH rfl Wj Wz UZ #[.bool true,.int .u64 0,.string (str a.s),.int .u32 0,.string ⟨#[]⟩,.string ⟨#[]⟩,.slice none 0 0,.int .u8 0,.int .u64 0,.string ⟨#[]⟩,.slice none 0 0,.slice none 0 0] Wz ?_)
 | have qq2u:=qq2u
   refine zc (zn (v:=.string (str a.s)) (vs:=[.string (str a.s)]) rfl rfl rfl rfl dH rfl Wj Wz UZ #[.bool true,.int .u64 0,.string (str a.s),.int .u32 0,.string ⟨#[]⟩,.string ⟨#[]⟩,.slice none 0 0,.int .u8 0,.int .u64 0,.string ⟨#[]⟩,.slice none 0 0,.slice none 0 0] Wz ?_)
 | refine zc (zn (v:=.agg #[.int .u8 (a.v.kind:Int),.int .u64 (a.v.n:Int),.string (str a.v.s),.slice h.h.A1 a.v.keys.length h.h.c1,.slice h.h.A2 a.v.list.length h.h.c2]) (vs:=[.int .u8 (a.v.kind:Int),.int .u64 (a.v.n:Int),.string (str a.v.s),.slice h.h.A1 a.v.keys.length h.h.c1,.slice h.h.A2 a.v.list.length h.h.c2]) rfl rfl rfl rfl dH rfl Wj Wz WQ #[.bool true,.int .u64 0,.string ⟨#[]⟩,.int .u32 0,.string ⟨#[]⟩,.string ⟨#[]⟩,.slice none 0 0,.int .u8 (a.v.kind:Int),.int .u64 (a.v.n:Int),.string (str a.v.s),.slice h.h.A1 a.v.keys.length h.h.c1,.slice h.h.A2 a.v.list.length h.h.c2] Wz ?_)
 intro w2 Ht Hm _;have Hu:=Hs.grown Hm (sne Wq);have Bj:=zk BM Hm ux;have bW:=zk cV Hm (fun g hg e=>by injection e with e;have:=(cV.blk_lt hg).1;omega);have Hc:=Ha.grown Hm Ha.size Wx;have cm:=Nat.le_trans Hf Hc.size;clear Hs dH BM cV Hm Ha;clear x0 x1 x2 x3 x4 x5 x6 x7 x8 x9 xA xB;have x0:=Hu.c0;have x1:=Hu.c1;have x2:=Hu.c2;have x3:=Hu.c3;have x4:=Hu.c4;have x5:=Hu.c5;have x6:=Hu.c6;have x7:=Hu.c7;have x8:=Hu.c8;have x9:=Hu.c9;have xA:=Hu.c10;have xB:=Hu.c11;have y0:=Ht.c0;have y1:=Ht.c1;have y2:=Ht.c2;have y3:=Ht.c3;have y4:=Ht.c4;have y5:=Ht.c5;have y6:=Ht.c6;have y7:=Ht.c7;have y8:=Ht.c8;have y9:=Ht.c9;have yA:=Ht.c10;have yB:=Ht.c11;go_wp2_with(with_reducible refine h_B ?_);refine zc (yc slB rfl rfl rfl rfl Bj bW.rd (zM _) Wq Hj cm ?_);intro A3 c3 w3 Bv H6 bX;have Hw:=Hu.grown H6 Nj;have Hv:=Ht.grown H6 Nj;have Hh:=(Hc.mono Hf).grown H6 cm (fun g hg=>eW g hg);have BQ:KB w w3 (blk A):=⟨Nat.le_trans Hc.size H6.size,fun g hg hne=>(H6.block g (Nat.lt_of_lt_of_le hg Hc.size) (fun e=>hne e.symm)).trans (Hc.block g hg)⟩;clear x0 x1 x2 x3 x4 x5 x6 x7 x8 x9 xA xB;clear y0 y1 y2 y3 y4 y5 y6 y7 y8 y9 yA yB;clear Hu Ht Bj bW H6 Hc bX;have x0:=Hw.c0;have x1:=Hw.c1;have x2:=Hw.c2;have x3:=Hw.c3;have x4:=Hw.c4;have x5:=Hw.c5;have x6:=Hw.c6;have x7:=Hw.c7;have x8:=Hw.c8;have x9:=Hw.c9;have xA:=Hw.c10;have xB:=Hw.c11;have y0:=Hv.c0;have y1:=Hv.c1;have y2:=Hv.c2;have y3:=Hv.c3;have y4:=Hv.c4;have y5:=Hv.c5;have y6:=Hv.c6;have y7:=Hv.c7;have y8:=Hv.c8;have y9:=Hv.c9;have yA:=Hv.c10;have yB:=Hv.c11
 first
 | have qq2y:=qq2y
   have cp:=lG.out w3 Hh;go_wp2_with(with_reducible refine h_B ?_);refine cp.mono ?_;rintro e w4 ⟨rfl,Hn⟩;have Bq:=zh Bv Hn;have bw:=Hh.trans (Hn.mono (Nat.le_trans Hf Hh.size));have Br:KB w w4 (blk A):=⟨Nat.le_trans BQ.1 Hn.size,fun g hg hne=>(Hn.block g (Nat.lt_of_lt_of_le hg BQ.1)).trans (BQ.2 g hg hne)⟩;clear Hw Hv Bv Hh Hn BQ cp;clear x0 x1 x2 x3 x4 x5 x6 x7 x8 x9 xA xB;clear y0 y1 y2 y3 y4 y5 y6 y7 y8 y9 yA yB;go_wp2_with(with_reducible refine h_A ?_);go_ret2
   exact⟨A3,_,c3,rfl,bw,Br,fun _=>⟨by simp[cW],(by have:=Bq;rw[←List.map_append]at this;exact this)⟩⟩
 | by_cases hE:E=0
   ·(obtain rfl:ok=sr:=by rw[Bz.out];simp[hE]);(have ge:(E==0)=true:=by simp[hE]);clear hE;exact Z4b_
   ·(obtain rfl:ok=false:=by rw[Bz.out];simp[hE]);(have ge:(E==0)=false:=by simp[hE]);clear hE;go_wp2_with(with_reducible refine h_B ?_);go_ret2
    exact⟨A3,_,c3,rfl,Hh,BQ,fun e=>absurd e Wz⟩):p:=h
theorem Zf_(h:p:=by
 first
 | have qq30:=qq30
   have cI:Hid (res=(vl0,0,5)):=Lib.hid (by rw[mC.out];unfold vget;rw[←mV.out])
 | have qq2z:=qq2z
   have cI:Hid (res=(vl0,0,5)):=Lib.hid (by rw[ND.out,if_neg he]);generalize errV x=E at*;(have g1:(E==0)=false:=by simpa using he);clear ND mC mV he;go_wp2_with(with_reducible refine h_A ?_);refine b7.mono ?_;rintro e w8 ⟨rfl,Bf⟩;have BS:=BJ.below Bf;have dn:=fd.below Bf;have C5:=wR.below Bf;have oe:=FL.below Bf;have nL:=Ah.below Bf;have nc:=lS.trans (Bf.mono lS.size);clear b7 BJ fd wR FL Ah On lS x0 x1 x2 x3 x4 Ot
   have gR:=xS BS dn false (.inl rfl)
 | have cI:Hid (res=(x,l.length-lq.length,0)):=Lib.hid (by rw[ND.out,if_pos he])
   rw[he]at b7;clear ND mC mV he;go_wp2_with(with_reducible refine h_A ?_);refine b7.mono ?_;rintro e w8 ⟨rfl,Bf⟩;have BS:=BJ.below Bf;have dn:=fd.below Bf;have C5:=wR.below Bf;have oe:=FL.below Bf;have nL:=Ah.below Bf;have NS:RV w8 (FN w5.heap.size w8) x h:=(On.keep (fun g hg=>Bf.block g hg.2) Bf.size).mono (fun g hg=>⟨hg.1,Nat.lt_of_lt_of_le hg.2 Bf.size⟩);have nc:=lS.trans (Bf.mono lS.size);have GC:=Bf.size;clear b7 BJ fd wR FL Ah On lS x0 x1 x2 x3 x4 Ot;have gR:=xL BS dn
 go_wp2_with(with_reducible refine h_A ?_)
 first
 | have qq30:=qq30
   refine rJ.mono ?_;rintro e w6 ⟨rfl,hK⟩;have M4:=hK.box Le Wq Wq;have wg:=hK.box pS Wq Wq;have md:=hK.box dv Wq Wq
   have en:=bc.trans (hK.1.mono Wq)
 | have qq2z:=qq2z
   refine gR.mono ?_;rintro e w9 ⟨rfl,rfl⟩
   clear gR
 | refine gR.mono ?_
   rintro e w9 ⟨rfl,rfl⟩;clear gR;go_upto_region 5 with fail;refine zt (fun W:World=>Box W p 78 #[.int .u8 (x.kind:Int),.int .u64 (x.n:Int),.string (str x.s),.slice h.A1 x.keys.length h.c1,.slice h.A2 x.list.length h.c2]∧Box W pb 255 #[.pointer (some ⟨ob,0,none⟩),.int .i64 (nq:Int)]) Wj ?_;have hS:Box w9.drew p 78 #[.int .u8 (x.kind:Int),.int .u64 (x.n:Int),.string (str x.s),.slice h.A1 x.keys.length h.c1,.slice h.A2 x.list.length h.c2]∧Box w9.drew pb 255 #[.pointer (some ⟨ob,0,none⟩),.int .i64 (nq:Int)]:=⟨C5,dn⟩;have lV:=BS.drew;replace oe:Box w9.drew q 3 #[.int .i64 0]:=oe;replace nL:Box w9.drew r 45 #[.int .i64 0]:=nL;replace NS:RV w9.drew (FN w5.heap.size w9.drew) x h:=NS.keep (fun g hg=>rfl) (Nat.le_refl _);replace nc:=za nc 1;replace GC:w7.heap.size≤w9.drew.heap.size:=GC;clear C5 dn BS Bf;have nc:Below w.heap.size w w9.drew:=nc;generalize w9.drew=wd at*;refine ze 0 (v:=?_) rfl Wj Wj Wj hS rfl ?_ ?_;rotate_left
   ·exact Z42_
   simp only[List.getElem_toArray,List.getElem_cons_zero,Act.put,List.setIfInBounds_toArray,List.set_cons_zero,List.set_cons_succ];refine rg_t 1 hS ?_;simp only[g_S];refine rg_t 2 hS ?_;simp only[g_S];refine rg_t 3 hS ?_;simp only[g_S];refine rg_t 4 hS ?_;simp only[g_S];refine rg_t 5 hS ?_;simp only[g_S];refine ze 6 (v:=?_) rfl Wj Wj Wj hS rfl ?_ ?_;rotate_left
   ·intro wS He;have y0:=He.2.cell (j:=0) rfl;go_simp;(with_reducible rfl)
   simp only[g_S];refine zj 7 rfl Wj rfl (fun K hK=>?_);go_simp;refine(yN lV).mono ?_;rintro e wd2 ⟨rfl,rfl⟩;refine hK _ _ hS ?_;clear hK K;(try simp only[g_S]);refine rg_t 8 hS ?_;simp only[g_S];refine zj 9 rfl Wj rfl (fun K hK=>?_);refine zK (g:=p) (j:=0) (v:=.agg #[.int .u8 (x.kind:Int),.int .u64 (x.n:Int),.string (str x.s),.slice h.A1 x.keys.length h.c1,.slice h.A2 x.list.length h.c2]) (vs:=[.int .u8 (x.kind:Int),.int .u64 (x.n:Int),.string (str x.s),.slice h.A1 x.keys.length h.c1,.slice h.A2 x.list.length h.c2]) rfl rfl rfl hS.1 rfl Wj Wz WQ #[.int .u8 (x.kind:Int),.int .u64 (x.n:Int),.string (str x.s),.slice h.A1 x.keys.length h.c1,.slice h.A2 x.list.length h.c2] Wz ?_;intro wa hpa cU _;have T4:Box wa p 78 #[.int .u8 (x.kind:Int),.int .u64 (x.n:Int),.string (str x.s),.slice h.A1 x.keys.length h.c1,.slice h.A2 x.list.length h.c2]∧Box wa pb 255 #[.pointer (some ⟨ob,0,none⟩),.int .i64 (nq:Int)]:=⟨hpa,hS.2.grown cU (sne Wq)⟩;have dV:=oe.grown cU (sne Wq);have fa:=nL.grown cU (sne Wq);have hBa:=nc.grown cU (by have:=nc.size;omega) Wx;have TK:RV wa (FN w5.heap.size wa) x h:=(NS.keep (fun g hg=>cU.block g hg.2 Hx) cU.size).mono (fun g hg=>⟨hg.1,Nat.lt_of_lt_of_le hg.2 cU.size⟩);clear hS oe nL nc NS cU hpa lV;have hS:=T4;clear T4;refine hK _ _ hS ?_;clear hK K;refine zj 10 rfl Wj rfl (fun K hK=>?_);refine zK (g:=q) (j:=0) (v:=.int .i64 (IntKind.i64.wrap ((n:Int)-(lq.length:Int)))) (vs:=[.int .i64 (IntKind.i64.wrap ((n:Int)-(lq.length:Int)))]) rfl rfl rfl dV rfl Wj Wz wX #[.int .i64 (IntKind.i64.wrap ((n:Int)-(lq.length:Int)))] Wz ?_;intro wb bD ph _;have NC:Box wb p 78 #[.int .u8 (x.kind:Int),.int .u64 (x.n:Int),.string (str x.s),.slice h.A1 x.keys.length h.c1,.slice h.A2 x.list.length h.c2]∧Box wb pb 255 #[.pointer (some ⟨ob,0,none⟩),.int .i64 (nq:Int)]:=⟨hS.1.grown ph (sne Wq),hS.2.grown ph (sne Wq)⟩;have cX:=fa.grown ph (sne Wq);have lZ:=hBa.grown ph (by have:=hBa.size;omega) Wx;have T8:RV wb (FN w5.heap.size wb) x h:=(TK.keep (fun g hg=>ph.block g hg.2 Hx) ph.size).mono (fun g hg=>⟨hg.1,Nat.lt_of_lt_of_le hg.2 ph.size⟩);clear hS dV fa hBa TK ph;refine hK _ _ NC ?_;clear hK K;refine zj 11 rfl Wj rfl (fun K hK=>?_);refine zK (g:=r) (j:=0) (v:=.int .i64 0) (vs:=[.int .i64 0]) rfl rfl rfl cX rfl Wj Wz wX #[.int .i64 0] Wz ?_;intro wc Ml Dv _;have nR:=NC.1.grown Dv (sne Wq);have hPc:=NC.2.grown Dv (sne Wq);have oM:=bD.grown Dv (sne Wq);have hBc:=lZ.grown Dv (by have:=lZ.size;omega) Wx;have Wi:RV wc (FN w5.heap.size wc) x h:=(T8.keep (fun g hg=>Dv.block g hg.2 Hx) Dv.size).mono (fun g hg=>⟨hg.1,Nat.lt_of_lt_of_le hg.2 Dv.size⟩);refine hK _ _ ⟨nR,hPc⟩ ?_;clear hK K NC cX lZ T8 Dv bD;refine zz Wj ?_
 go_wp2_with(with_reducible refine h_A ?_)
 first
 | done
 | have qq30:=qq30
 | have qq2z:=qq2z
 | have pR:IntKind.i64.wrap ((n:Int)-(lq.length:Int))=((l.length-lq.length:Nat):Int):=by rw[IntWalk.i64_in _ ⟨by omega,by omega⟩];omega
   rw[pR]at oM
 refine leaves_cons (f:=getD) (args:=#[.pointer (some ⟨p,0,none⟩),.pointer (some ⟨q,0,none⟩),.pointer (some ⟨r,0,none⟩)]) Wz (by simp[go_sem]) ?_
 first
 | have qq30:=qq30
   refine(Yo p q r [] _ _ _ _ M4 rfl wg md Wq Wq Wq w.heap.size Wq Wq Wq).mono ?_;rintro e u' w'' ⟨rfl,rfl,nR,oM,Ml,Bl⟩
   have Ey:=(en).trans Bl
 | have qq2z:=qq2z
   refine(Yo p q r [] _ _ _ _ C5 rfl oe nL Wq Wq Wq w.heap.size Wq Wq Wq).mono ?_;rintro e u' w'' ⟨rfl,rfl,nR,oM,Ml,Bl⟩
   have Ey:=(nc).trans Bl
 | refine(zbn ⟨p,0,none⟩ ⟨q,0,none⟩ ⟨r,0,none⟩ _).mono ?_
   (rintro e u' w'' ⟨rfl,rfl,rfl⟩)
 have k1:=oM.c0;have k2:=Ml.c0;have Db:=nR.c0;have C0:=nR.c1;have C7:=nR.c2;have CJ:=nR.c3;have CV:=nR.c4;simp only[List.getElem_toArray,List.getElem_cons_zero,List.getElem_cons_succ]at k1 k2 Db C0 C7 CJ CV;simp[Leaves,settle,results,Tryz.results162,go_sem,Db,C0,C7,CJ,CV,k1,k2];rw[cI.out]
 first|(have qq30:=qq30;exact⟨⟨none,0,none,0⟩,rfl,RV.zero _ _,Ey⟩)|(have qq2z:=qq2z;exact⟨⟨none,0,none,0⟩,rfl,RV.zero _ _,Ey⟩)|(exact⟨h,rfl,Wi.mono (fun g hg=>⟨by have:=hg.1;omega,hg.2⟩),hBc⟩)):p:=h
theorem Z49_(h:p:=by
 refine zK (g:=lb) (j:=5) (v:=.string (str (L.sent++cb))) (vs:=[.string (str (L.sent++cb))]) rfl rfl rfl h0.box rfl Wj Wz WZ #[.int .i64 (L.st:Int),.string (str b),.pointer (some ⟨gb,0,none⟩),.int .u64 (L.ch:Int),.int .u64 (L.sz:Int),.string (str (L.sent++cb)),.slice TT L.told.length tc] Wz ?_;intro w9 gg du iJ;refine hK _ _ (fun h=>absurd rfl h) ?_;clear hK K iJ;try simp only[g_S]
 refine kO Wj ?_;go_wp2_with(with_reducible refine h_A ?_);go_meet
 case rel=>exact⟨h0.put (L':={L with sent:=L.sent++cb}) du rfl rfl gg,(KeepF.below hB).trans (.grown (F:=U) du (fun g e=>.inl Ux)) (fun _ h=>.inl h)⟩):p:=h
theorem Zg_(h:p:=by
 first
 | have qq34:=qq34
   have HR:=Lib.hid (wO.out.trans (if_pos q1));(have d1:((m.code:Int)==11)=true:=by simp;omega);clear q1;(have fh:∀(W:World),RlX W B U T lb gb l b L TT tc th F→Calls prog 29 #[.pointer (some ⟨lb,0,none⟩),.int .u8 12,.slice none 0 0] W fun e w'=>e= .returned (.string (str (ctlB L.sz Zq)))∧Below W.heap.size W w':=fun W hx=>j4 12 [] _ zcU WJ lb L.sz none 0 0 W (Rd.nil _ _ _ _ WX _) (hx.box.cell (j:=4) rfl) Bw);have bC:(ctlB L.sz Zq).length≤10000:=Nat.le_trans (jj _ _) WJ
   obtain⟨cb,Bm⟩:∃cb,cb=ctlB L.sz Zq:=⟨_,rfl⟩
 | have qq32:=qq32
   have HR:=Lib.hid (T5.out.trans (show L.opened s={L.send Zp with st:=4} by unfold LS.opened;rw[if_neg (of_decide_eq_false HY.out.symm)]));clear z1;(have fh:∀(W:World),RlX W B U T lb gb l b L TT tc th F→Calls prog 29 #[.pointer (some ⟨lb,0,none⟩),.int .u8 8,.slice none 0 0] W fun e w'=>e= .returned (.string (str (ctlB L.sz Zp)))∧Below W.heap.size W w':=fun W hx=>j4 8 [] _ zdx WJ lb L.sz none 0 0 W (Rd.nil _ _ _ _ WX _) (hx.box.cell (j:=4) rfl) Bw);have bC:(ctlB L.sz Zp).length≤10000:=Nat.le_trans (jj _ _) WJ
   obtain⟨cb,Bm⟩:∃cb,cb=ctlB L.sz Zp:=⟨_,rfl⟩
 | obtain⟨TT,tc,th,F,hX⟩:=h
   (have dC:∀W,Calls prog 30 #[.int .u64 (code:Int),.string ⟨#[]⟩] W fun e w'=>e= .returned (.agg #[.bool true,.int .u64 (code:Int),.string (⟨#[]⟩),.int .u32 0,.string ⟨#[]⟩,.string ⟨#[]⟩,.slice none 0 0,.int .u8 0,.int .u64 0,.string ⟨#[]⟩,.slice none 0 0,.slice none 0 0])∧Below W.heap.size W w':=fun W=>jq code [] W);(have db:∀W,Calls prog 30 #[.int .u64 0,.string (str text)] W fun e w'=>e= .returned (.agg #[.bool true,.int .u64 (0),.string (str text),.int .u32 0,.string ⟨#[]⟩,.string ⟨#[]⟩,.slice none 0 0,.int .u8 0,.int .u64 0,.string ⟨#[]⟩,.slice none 0 0,.slice none 0 0])∧Below W.heap.size W w':=fun W=>jq 0 text W);(have fh:∀(W:World) (A:Option Addr),Rd W W.heap.size 12 A 2 2 (rowC saC [⟨true,code,[]⟩,⟨true,0,text⟩])→RlX W B U T lb gb l b L TT tc th F→Calls prog 29 #[.pointer (some ⟨lb,0,none⟩),.int .u8 11,.slice A 2 2] W fun e w'=>e= .returned (.string (str (ctlB L.sz (qx code text))))∧Below W.heap.size W w':=fun W A hr hx=>j4 11 _ _ (zcV code text oF oZ) (by simp[qx,zr];omega) lb L.sz A 2 2 W hr (hx.box.cell (j:=4) rfl) Bw);have bC:(ctlB L.sz (qx code text)).length≤10000:=Nat.le_trans (jj _ _) (by simp[qx,zr];omega);obtain⟨cb,Bm⟩:∃cb,cb=ctlB L.sz (qx code text):=⟨_,rfl⟩
 rw[←Bm]at fh bC;have pZ:=Lib.hid Bm;clear Bm;have BZ:=zi L.sent;have cm:=zi cb;have o4:(9223372036854775807<L.sent.length+cb.length)=False:=by simp;omega
 first
 | have qq34:=qq34
   go_upto_region 20 with fail
   go_cut []from 157 (fun wx=>RlX wx B U T lb gb l b {L with sent:=L.sent++cb} TT tc th F∧KeepF U w wx)
 | have qq32:=qq32
   go_upto_region 17 with fail
   go_cut []from 140 (fun wx=>RlX wx B U T lb gb l b {L with sent:=L.sent++cb} TT tc th F∧KeepF U w wx)
 | go_enter func34,ntmps34
   go_upto_region 0 with fail;go_cut []from 6 (fun wx=>RlX wx B U T lb gb l b {L with sent:=L.sent++cb} TT tc th F∧KeepF U w wx)
 case first=>
  first
  | have qq34:=qq34
    clear y0 y1 y3 c0
    have B0:Below (wm).heap.size wm (wm).drew:=za (Below.refl _ wm) 1
  | have qq32:=qq32
    clear y0 y1 y3 c0
    have B0:Below (wm).heap.size wm (wm).drew:=za (Below.refl _ wm) 1
  | have h0:=hX
    have hB:=Below.refl w.heap.size w;clear hX;have B0:Below (w).heap.size w (w).drew:=za (Below.refl _ w) 1
  replace h0:=h0.below B0;replace hB:=hB.trans (B0.mono hB.size);clear B0;first|(have qq34:=qq34;refine jb 10 (fun W:World=>W.cell? ⟨lb,5,none⟩=some (.string (str L.sent))) Wj ?_)|(have qq32:=qq32;refine jb 10 (fun W:World=>W.cell? ⟨lb,5,none⟩=some (.string (str L.sent))) Wj ?_)|(refine jb 15 (fun W:World=>W.cell? ⟨lb,5,none⟩=some (.string (str L.sent))) Wj ?_)
  have hS:=h0.box.c5;simp only[List.getElem_toArray,List.getElem_cons_succ,List.getElem_cons_zero]at hS;first|(have qq34:=qq34;generalize(wm).drew=wd at*)|(have qq32:=qq32;generalize(wm).drew=wd at*)|(generalize(w).drew=wd at*)
  refine yi 0 hS ?_;try simp only[g_S]
  refine yi 1 hS ?_;try simp only[g_S]
  refine yi 2 hS ?_;try simp only[g_S]
  refine yi 3 hS ?_;try simp only[g_S]
  refine yi 4 hS ?_;try simp only[g_S]
  refine yi 5 hS ?_
  first
  | done
  | have qq34:=qq34
  | have qq32:=qq32
  | try simp only[g_S]
    refine yi 6 hS ?_;(try simp only[g_S]);refine yi 8 hS ?_;(try simp only[g_S]);refine yH 7 rfl Wj rfl (fun K hK=>?_);go_simp
    (with_reducible refine(dC _).mono ?_)
    rintro e w1 ⟨rfl,Ha⟩;replace hS:=(Ha.cell (p:=⟨lb,5,none⟩) h0.box.lt).trans hS;refine hK _ _ (fun _=>hS) ?_;clear hK K;replace h0:=h0.below Ha;replace hB:=hB.trans (Ha.mono hB.size);clear Ha;(try simp only[g_S]);refine yH 9 rfl Wj rfl (fun K hK=>?_);go_simp
    (with_reducible refine(db _).mono ?_)
    rintro e w2 ⟨rfl,Ha⟩;replace hS:=(Ha.cell (p:=⟨lb,5,none⟩) h0.box.lt).trans hS;refine hK _ _ (fun _=>hS) ?_;clear hK K;replace h0:=h0.below Ha;replace hB:=hB.trans (Ha.mono hB.size);clear Ha;(try simp only[g_S]);refine yH 10 rfl Wj rfl (fun K hK=>?_);obtain⟨ab,w3,bD,bo,hG,Ha⟩:=zq w2 #[.bool true,.int .u64 (code:Int),.string (⟨#[]⟩),.int .u32 0,.string ⟨#[]⟩,.string ⟨#[]⟩,.slice none 0 0,.int .u8 0,.int .u64 0,.string ⟨#[]⟩,.slice none 0 0,.slice none 0 0,.bool true,.int .u64 (0),.string (str text),.int .u32 0,.string ⟨#[]⟩,.string ⟨#[]⟩,.slice none 0 0,.int .u8 0,.int .u64 0,.string ⟨#[]⟩,.slice none 0 0,.slice none 0 0] 80;have bZ:=yn (w:=w2) (w2).heap.size #[.bool true,.int .u64 (code:Int),.string (⟨#[]⟩),.int .u32 0,.string ⟨#[]⟩,.string ⟨#[]⟩,.slice none 0 0,.int .u8 0,.int .u64 0,.string ⟨#[]⟩,.slice none 0 0,.slice none 0 0,.bool true,.int .u64 (0),.string (str text),.int .u32 0,.string ⟨#[]⟩,.string ⟨#[]⟩,.slice none 0 0,.int .u8 0,.int .u64 0,.string ⟨#[]⟩,.slice none 0 0,.slice none 0 0] 80 2 (Nat.le_refl _) WX (size:=12) rfl Wq;rw[←bo,←bD]at bZ;have fa:Rd w3 w3.heap.size 12 (some ⟨ab,0,none⟩) 2 2 (rowC saC [⟨true,code,[]⟩,⟨true,0,text⟩]):=bZ.rd;refine YW (QK rfl rfl rfl) ?_;rw[←bo,←bD];replace hS:=(Ha.cell (p:=⟨lb,5,none⟩) h0.box.lt).trans hS;refine hK _ _ (fun _=>hS) ?_;clear hK K bZ bo bD hG;replace h0:=h0.below Ha;replace hB:=hB.trans (Ha.mono hB.size);clear Ha
  try simp only[g_S]
  first
  | have qq34:=qq34
    refine yH 6 rfl Wj rfl (fun K hK=>?_)
    have fy:=fh _ h0
  | have qq32:=qq32
    refine yH 6 rfl Wj rfl (fun K hK=>?_)
    have fy:=fh _ h0
  | refine yH 11 rfl Wj rfl (fun K hK=>?_)
    have fy:=fh w3 _ fa h0
  go_simp
  (with_reducible refine(fy).mono ?_)
  rintro e w4 ⟨rfl,Ha⟩;replace hS:=(Ha.cell (p:=⟨lb,5,none⟩) h0.box.lt).trans hS;refine hK _ _ (fun _=>hS) ?_;clear hK K;replace h0:=h0.below Ha;replace hB:=hB.trans (Ha.mono hB.size);clear Ha;try simp only[g_S]
  clear fy;first|(have qq34:=qq34;refine yi 7 hS ?_)|(have qq32:=qq32;refine yi 7 hS ?_)|(refine yi 12 hS ?_)
  try simp only[g_S]
  simp only[jl];first|(have qq34:=qq34;refine yi 8 hS ?_)|(have qq32:=qq32;refine yi 8 hS ?_)|(refine yi 13 hS ?_)
  try simp only[g_S]
  first|(have qq34:=qq34;refine yi 9 hS ?_)|(have qq32:=qq32;refine yi 9 hS ?_)|(refine yi 14 hS ?_)
  try simp only[g_S]
  first|(have qq34:=qq34;refine yH 10 rfl Wj rfl (fun K hK=>?_))|(have qq32:=qq32;refine yH 10 rfl Wj rfl (fun K hK=>?_))|(refine yH 15 rfl Wj rfl (fun K hK=>?_))
  exact Z49_
 first
 | have qq34:=qq34
   obtain⟨h1,dM⟩:=hcut
   clear h0
 | have qq32:=qq32
   obtain⟨h1,dM⟩:=hcut
   clear h0
 | obtain⟨h0,dA⟩:=hcut
   clear hX dC db fh
 go_wp2_with(with_reducible refine h_B ?_)
 first
 | have qq34:=qq34
   refine zc (zn (v:=.int .i64 5) (vs:=[.int .i64 5]) rfl rfl rfl rfl h1.box rfl Wj Wz WZ #[.int .i64 (5),.string (str b),.pointer (some ⟨gb,0,none⟩),.int .u64 (L.ch:Int),.int .u64 (L.sz:Int),.string (str (L.sent++cb)),.slice TT L.told.length tc] Wz ?_)
 | have qq32:=qq32
   refine zc (zn (v:=.int .i64 4) (vs:=[.int .i64 4]) rfl rfl rfl rfl h1.box rfl Wj Wz WZ #[.int .i64 (4),.string (str b),.pointer (some ⟨gb,0,none⟩),.int .u64 (L.ch:Int),.int .u64 (L.sz:Int),.string (str (L.sent++cb)),.slice TT L.told.length tc] Wz ?_)
 | refine zc (zn (v:=.int .i64 5) (vs:=[.int .i64 5]) rfl rfl rfl rfl h0.box rfl Wj Wz WZ #[.int .i64 5,.string (str b),.pointer (some ⟨gb,0,none⟩),.int .u64 (L.ch:Int),.int .u64 (L.sz:Int),.string (str (L.sent++cb)),.slice TT L.told.length tc] Wz ?_)
 intro w6 di bz fc;clear fc
 first
 | have qq34:=qq34
   have h2:=h1.put (L':={L with sent:=L.sent++cb,st:=5}) bz rfl rfl di;have Bk:=dM.trans (.grown (F:=U) bz (fun g e=>.inl UX)) (fun _ h=>.inl h);rw[pZ.out]at h2
   clear h1 dM
 | have qq32:=qq32
   have h2:=h1.put (L':={L with sent:=L.sent++cb,st:=4}) bz rfl rfl di;have Bk:=dM.trans (.grown (F:=U) bz (fun g e=>.inl UX)) (fun _ h=>.inl h);rw[pZ.out]at h2
   clear h1 dM
 | have h1:=h0.put (L':={L with sent:=L.sent++cb,st:=5}) bz rfl rfl di
   have dM:=dA.trans (.grown (F:=U) bz (fun g e=>.inl Ux)) (fun _ h=>.inl h);rw[pZ.out]at h1
 go_wp2_with(with_reducible refine h_B ?_);go_end0
 first|(have qq34:=qq34;exact⟨rfl,by rw[HR.out];exact RStep.mk h2 Bk⟩)|(have qq32:=qq32;exact⟨rfl,by rw[HR.out];exact RStep.mk h2 Bk⟩)|(exact⟨rfl,RStep.mk h1 dM⟩)):p:=h
theorem Zh_(h:p:=by
 subst hk
 first
 | have qq38:=qq38
   generalize dr:(((169:Nat):Int))=k at*
   obtain rfl:k=169:=by rw[←dr];rfl
 | generalize dr:(((168:Nat):Int))=k at*
   obtain rfl:k=168:=by rw[←dr];rfl
 clear dr;have c0:=bS.c0;have c1:=bS.c1;have c2:=bS.c2;have c3:=bS.c3;have c4:=bS.c4;first|(have qq38:=qq38;rw[show yu 169 v.n v.s INN=be 4 INN.length++INN by simp[yu]]at eU)|(rw[show yu 168 v.n v.s INN=be 4 INN.length++INN by simp[yu]]at eU)
 have E3:INN.length≤100000000:=by have:=lu;rw[eU.out]at this;simp at this;omega
 have BE:=fun{i:Nat} (hi:i<v.list.length)=>(Gd.mono (fun g hg=>Nat.lt_of_lt_of_le hg d9)).elem hi
 first
 | have qq38:=qq38
   simp only at BE
 | have rY:=fun{i:Nat} (hi:i<v.keys.length)=>(Gd.mono (fun g hg=>Nat.lt_of_lt_of_le hg d9)).key hi
   simp only at BE rY;obtain⟨Gc,rZ⟩:=Nw.out rfl
 obtain⟨N,hN⟩:∃N,N=v.list.length:=⟨_,rfl⟩
 first
 | have qq38:=qq38
   rw[←hN]at bS Au v9 c0 c1 c2 c3 c4 ⊢
   have D5:Hid (be 4 N++yy false v.keys v.list=INN):=Lib.hid (by rw[tW.out,innB,t3.out,hN];rfl)
 | rw[←hN]at bS Au v9 c0 c1 c2 c3 c4 Gc ⊢
   have D5:Hid (be 4 N++yy true v.keys v.list=INN):=Lib.hid (by rw[tW.out,innB,t3.out,hN];rfl)
 have HN:=Lib.hid hN
 first
 | done
 | have qq38:=qq38
 | have EX:=Lib.hid Gc
   have ta:=Lib.hid rZ;clear Gc rZ
 have hp:=yP none 0 0 [] N 4 w3 (Rd.nil _ _ _ _ WX _) Wq Wq;rw[yT WJ,List.nil_append,show Int.toNat 4=4 from rfl]at hp;have Ap:(be 4 N).length=4:=zr 4 N;generalize be 4 N=P0 at*;have HP4:=Lib.hid Ap;have HV:=Lib.hid Gd;have SY:=Lib.hid u5;have IH:=Lib.hid ih;clear hN Ap Gd u5 ih mu rL ML DP oK lX;go_wp2_with(with_reducible refine h_A ?_);refine hp.mono ?_;rintro e w4 ⟨A4,my,rfl,Bq,Hn⟩;have Bg:=bS.below Hn;clear hp c0 c1 c2 c3 c4;have c0:=Bg.c0;have c1:=Bg.c1;have c2:=Bg.c2;have c3:=Bg.c3;have c4:=Bg.c4;go_wp2_with(with_reducible refine h_A ?_);clear c0 c1 c2 c3 c4 Bg
 first
 | have qq38:=qq38
   go_loopw [5,58] (fun s5 D2 wr=>∃(i ni ci:Nat) (Ai:Option Addr) (li:List UInt8),i≤N∧s5= .slice Ai ni ci∧D2= .int .i64 i∧OwnB wr w3.heap.size Ai ni ci li∧Below w3.heap.size w3 wr∧Hid (li++yy false (v.keys.drop i) (v.list.drop i)=INN)) (fun _ D2 _=>N-(RowKit.intOf D2).toNat)
 | go_loopw [5,58] (fun s5 D2 wr=>∃(i ni ci:Nat) (Ai:Option Addr) (li:List UInt8),i≤N∧s5= .slice Ai ni ci∧D2= .int .i64 i∧OwnB wr w3.heap.size Ai ni ci li∧Below w3.heap.size w3 wr∧Hid (li++yy true (v.keys.drop i) (v.list.drop i)=INN)) (fun _ D2 _=>N-(RowKit.intOf D2).toNat)
 case atStart=>exact⟨0,P0.length,my,A4,P0,by omega,rfl,rfl,Bq,Hn,Lib.hid D5.out⟩
 clear Bq Hn;obtain⟨i,ni,ci,Ai,li,hi,rfl,rfl,iu,hB,HC⟩:=hrel;have Bg:=Au.below hB;have bQ:ni≤INN.length:=by have:=RdB.length iu.rd;rw[←HC.out,List.length_append];omega
 have ma:=hB.size;by_cases hlt:i<N
 ·have g1:(i:Int)<(N:Int):=by omega
  have BB:i<v.list.length:=by rw[←HN.out];exact hlt
  obtain⟨b,off,hx,rfl,ek,HX⟩:=BE BB;obtain⟨k0,k1,k2,k3,k4⟩:=HX wr hB
  first
  | have qq38:=qq38
    have HD:Hid (yy false (v.keys.drop i) (v.list.drop i)=vlB v.list[i]++yy false (v.keys.drop (i+1)) (v.list.drop (i+1))):=Lib.hid (Yi BB _ _)
  | have mo:i<v.keys.length:=by rw[EX.out];exact hlt
    obtain⟨bk,offk,rfl,LW⟩:=rY mo;have HD:Hid (yy true (v.keys.drop i) (v.list.drop i)=((be 1 v.keys[i].length++v.keys[i])++vlB v.list[i])++yy true (v.keys.drop (i+1)) (v.list.drop (i+1))):=Lib.hid (Xu BB mo)
    have bI:v.keys[i].length≤255:=by
     exact Z44_
  have m4:mayV zJ v.list[i]=true:=List.all_eq_true.1 wU.out _ (List.getElem_mem BB);have bO:=IH.out _ (List.getElem_mem BB);first|(have qq38:=qq38;clear HX BE)|(clear HX BE rY)
  generalize v.list[i]=x at*;first|done|(have qq38:=qq38)|(generalize v.keys[i]=ky at*)
  obtain⟨yb,w5,iB,dF,hY,bw⟩:=zg wr #[.int .u8 (x.kind:Int),.int .u64 (x.n:Int),.string (str x.s),.slice hx.A1 x.keys.length hx.c1,.slice hx.A2 x.list.length hx.c2] 78;have pc:=hB.trans (bw.mono ma);have B3:=Bg.below bw;have lR:=zh iu bw;have gI:=pc.size;go_upto_region 19 with fail;rw[←iB,←dF];clear iB dF k0 k1 k2 k3 k4 Bg iu;have c0:=B3.c0;have c1:=B3.c1;have c2:=B3.c2;have c3:=B3.c3;have c4:=B3.c4
  first
  | have qq38:=qq38
    have cL:Hid (li++vlB x++yy false (v.keys.drop (i+1)) (v.list.drop (i+1))=INN):=Lib.hid (by rw[←HC.out,HD.out,List.append_assoc]);have BC:=RdB.length lR.rd;have GE:Hid (ni+(vlB x).length≤INN.length):=Lib.hid (by rw[←cL.out,←BC];simp[List.length_append]);clear BC
    have dQ:=bO hx w3.heap.size Ai ni ci li w5 (ek.under pc (Nat.le_refl _)) lR pc.size m4 (by have:=GE.out;omega)
  | have y0:=LW w5 pc
    (have rM:zE ky.length 1=0:=by simp[zE];omega);have ck:=qB Ai ni ci li ky 1 w5 lR.rd Wq Wq;rw[yQ rM,rM]at ck;(obtain⟨M,hM⟩:∃M,M=li++be (Int.toNat 1) ky.length++ky:=⟨_,rfl⟩);rw[←hM]at ck;have cL:Hid (M++vlB x++yy true (v.keys.drop (i+1)) (v.list.drop (i+1))=INN):=Lib.hid (by rw[←HC.out,HD.out,hM];simp[List.append_assoc]);have GE:Hid (M.length+(vlB x).length≤INN.length):=Lib.hid (by rw[←cL.out];simp[List.length_append]);clear hM rM;go_wp2_with(with_reducible refine h_A ?_);refine ck.mono ?_;rintro e w6 ⟨A6,c6,rfl,bR,bG⟩;have DM:=pc.trans (bG.mono gI);have I1:=hY.below bG;have St:=bR.base_le gI;clear ck y0 c0 c1 c2 c3 c4 B3 hY lR bR;have dQ:=bO hx w3.heap.size A6 M.length c6 M w6 (ek.under DM (Nat.le_refl _)) St DM.size m4 (by have:=GE.out;omega)
  unfold vlV VPut at dQ;first|(have qq38:=qq38;obtain⟨L2,MM⟩:∃L,L=li++vlB x:=⟨_,rfl⟩)|(obtain⟨L2,MM⟩:∃L,L=M++vlB x:=⟨_,rfl⟩)
  rw[←MM]at dQ cL;clear MM bO ek
  first
  | have qq38:=qq38
    have d0:=hY.c0;have d1:=hY.c1;have d2:=hY.c2;have d3:=hY.c3
    have d4:=hY.c4
  | have d0:=I1.c0
    have d1:=I1.c1;have d2:=I1.c2;have d3:=I1.c3;have d4:=I1.c4
  go_wp2_with(with_reducible refine h_A ?_);refine dQ.mono ?_;rintro e w7 ⟨A7,c7,rfl,dI,_,Bn⟩;first|(have qq38:=qq38;clear dQ d0 d1 d2 d3 d4 c0 c1 c2 c3 c4)|(clear dQ d0 d1 d2 d3 d4)
  go_wp2_with(with_reducible refine h_A ?_);first|(have qq38:=qq38;exact⟨⟨i+1,L2.length,c7,A7,L2,by omega,rfl,by go_num,dI,pc.trans Bn,cL⟩,by simp[RowKit.intOf];omega⟩)|(exact⟨⟨i+1,L2.length,c7,A7,L2,by omega,rfl,by go_num,dI,DM.trans Bn,cL⟩,by simp[RowKit.intOf];omega⟩)
 have g1:¬(i:Int)<(N:Int):=by omega
 have gu:li=INN:=by
  exact Z4x_
 subst gu;have BC:li.length=ni:=RdB.length iu.rd;have pO:=zh Bv hB;have hp:=yP A3 n1 q3 l1 ni 4 wr pO.rd Wq Wq;rw[yT WJ,show Int.toNat 4=4 from rfl]at hp;obtain⟨M,hM⟩:∃M,M=l1++be 4 ni:=⟨_,rfl⟩
 rw[←hM]at hp;have Aw:Hid (R=M++li):=Lib.hid (by rw[eU.out,hM,BC,List.append_assoc]);have EK:M.length+ni=R.length:=by rw[Aw.out,List.length_append,BC]
 first|(have qq38:=qq38;clear hM BC BE)|(clear hM BC BE rY)
 have c0:=Bg.c0;have c1:=Bg.c1;have c2:=Bg.c2;have c3:=Bg.c3;have c4:=Bg.c4;go_wp2_with(with_reducible refine h_A ?_);refine hp.mono ?_;rintro e w8 ⟨A8,c8,rfl,dP,Bf⟩;have lD:=zh iu Bf;have pF:=Bf.size;clear hp;go_wp2_with(with_reducible refine h_A ?_);refine zc (yc slB rfl rfl rfl rfl dP lD.rd (zM _) Wq Hj pF ?_);intro A9 c9 w9 dt du _;have Bl:Below w3.heap.size w3 w9:=(hB.trans (Bf.mono ma)).grown du (Nat.le_trans ma pF) (fun g hg=>by have:=(dP.blk_lt hg).1;omega);rw[←List.map_append,←Aw.out,EK]at dt;rw[EK];clear c0 c1 c2 c3 c4;go_wp2_with(with_reducible refine h_A ?_);go_ret
 exact⟨A9,c9,rfl,dt.base_le Wq,BQ.on Bl,i6.trans (Bl.mono d9)⟩):p:=h
theorem Z4h_(h:p:=by
 go_wp2_with(with_reducible refine h_A ?_);refine(b7 _).mono ?_;rintro e w1 ⟨rfl,Ha⟩;have Hc:=Hy.trans (Ha.mono Hy.size);go_wp2_with(with_reducible refine h_A ?_);go_ret2
 exact⟨none,0,rfl,Own.none_ _ _ _ _,Hc⟩):p:=h
theorem Zi_(h:p:=by
 first|(have qq39:=qq39;have b7:=fun W=>Xn x W hw)|(have b7:=fun W=>Z9 x W hw)
 cases bJ:x.ok
 ·have e2:x.err=40:=by simp[Xd.err,bJ]
  rw[Xd.put_no bJ,e2];rw[e2]at b7;clear bJ e2;obtain⟨f,g,h⟩:=x;unfold xdV at b7 ⊢;simp only at b7;have Hy:Below w.heap.size w (w.alloc (.cells #[.int .u32 (f:Int),.string (str g),.string (str h)] 73)):=(Below.refl _ _).alloc (Nat.le_refl _) _;first|(have qq39:=qq39;go_enter func103,ntmps103)|(go_enter func96,ntmps96)
  exact Z4h_
 have e2:x.err=0:=by simp[Xd.err,bJ]
 obtain⟨h1,h2,h3⟩:=(Xd.ok_iff x).1 bJ;first|(have qq39:=qq39;have mm:Hid (zP (zP (puts [] x.fmt 4) x.glob 1) x.bran 1=x.bytes):=Lib.hid (by rw[zde,ZJ h2,ZJ h3];rfl))|(have mm:Hid (((((be 4 x.fmt++ [UInt8.ofNat x.glob.length])++x.glob)++ [UInt8.ofNat x.bran.length])++x.bran)=x.bytes):=Lib.hid (by unfold Xd.bytes;rw[be1,be1]))
 have dG:=Xd.bytes_length x;rw[Xd.put_ok bJ,e2];rw[e2]at b7;clear bJ e2;generalize dT:x.bytes=by_ at*;clear dT;obtain⟨f,g,h⟩:=x;obtain⟨hf,_,_⟩:=hw;unfold xdV at b7 ⊢;simp only at b7 h1 h2 h3 mm dG hf;have Hy:Below w.heap.size w (w.alloc (.cells #[.int .u32 (f:Int),.string (str g),.string (str h)] 73)):=(Below.refl _ _).alloc (Nat.le_refl _) _;have cY:Box (w.alloc (.cells #[.int .u32 (f:Int),.string (str g),.string (str h)] 73)) w.heap.size 73 #[.int .u32 (f:Int),.string (str g),.string (str h)]:=Box.new _ _ _;have gG:IntKind.u64.wrap (f:Int)=(f:Int):=IntWalk.u64_in _ ⟨by omega,by omega⟩
 first
 | have qq39:=qq39
   have O3:=fun(A:Option Addr) (n c:Nat) (l s:List UInt8) (W:World)=>qB A n c l s 1 W
   go_enter func103,ntmps103
 | have gw:=zi g
   have nW:=zi h;(have Rn:IntKind.u8.wrap ((str g).size:Int)=(g.length:Int):=by rw[gw];exact IntWalk.u8_in _ ⟨by omega,by omega⟩);(have hwh:IntKind.u8.wrap ((str h).size:Int)=(h.length:Int):=by rw[nW];exact IntWalk.u8_in _ ⟨by omega,by omega⟩);have fL:=h2;have Tk:=h3;(obtain⟨G,hG⟩:∃G,G=g.length:=⟨_,rfl⟩);(obtain⟨H,hH⟩:∃H,H=h.length:=⟨_,rfl⟩);rw[←hG]at Rn mm dG h2;rw[←hH]at hwh mm dG h3;clear gw nW;have HG:=Lib.hid hG;have HH:=Lib.hid hH;clear hG hH h1;go_enter func96,ntmps96
 go_wp2_with(with_reducible refine h_A ?_);refine(b7 _).mono ?_;rintro e w1 ⟨rfl,Ha⟩;have Hc:=Hy.trans (Ha.mono Hy.size);have bK:=cY.below Ha;clear cY Hy Ha b7;have k0:=bK.c0;have k1:=bK.c1;have k2:=bK.c2
 first
 | have qq39:=qq39
   have hp:=yP none 0 0 [] f 4 w1 (Rd.nil _ _ _ _ WX _) Wq Wq;(obtain⟨b1,FK⟩:∃b1,b1=puts [] f 4:=⟨_,rfl⟩);(have gf:b1.length=4:=by rw[FK,zde,zr]);rw[←FK]at hp mm;rw[gf]at hp
   clear FK
 | skip
 go_wp2_with(with_reducible refine h_A ?_);first|(have qq39:=qq39;refine hp.mono ?_)|(refine(yd f 4 w1 Wq Wq).mono ?_)
 rintro e w2 ⟨A2,c2,rfl,bW,Hh⟩;have Hn:=Hc.trans (Hh.mono Hc.size);have bF:=bK.below Hh
 first
 | have qq39:=qq39
   clear bK Hc hp k0 k1 k2
 | have bW:=bW.base_le (show w.heap.size+1≤w1.heap.size from bK.lt)
   have gf:(be 4 f).length=4:=zr _ _;have ep:w.heap.size<w2.heap.size:=bF.lt;generalize be 4 f=o1 at*;clear bK Hc k0 k1 k2 Hh
 have k0:=bF.c0;have k1:=bF.c1;have k2:=bF.c2
 first
 | have qq39:=qq39
   have hp:=O3 A2 4 c2 b1 g w2 bW.rd Wq Wq;rw[YP h2]at hp;(obtain⟨b2,D9⟩:∃b2,b2=zP b1 g 1:=⟨_,rfl⟩);(have cN:b2.length=5+g.length:=by rw[D9,ZJ h2];simp[zr,gf];omega);rw[←D9]at hp mm;clear D9;generalize b2.length=N2 at*;have Mk:N2≤140737488351240:=by omega
   clear cN
 | have CZ:Own (w2.alloc (.cells #[.int .u8 (G:Int)] 5)) w2.heap.size 5 1 (some ⟨w2.heap.size,0,none⟩) 1 1 ([UInt8.ofNat G].map u8v):=by
    have h:=yn (w:=w2) w2.heap.size #[.int .u8 (G:Int)] 5 1 (Nat.le_refl _) WX rfl (size:=1) Wq;rw[zdd (show G<256 by omega)]at h ⊢;exact h
   have F9:Below w.heap.size w (w2.alloc (.cells #[.int .u8 (G:Int)] 5)):=Hn.alloc Hn.size _;have Ee:=bF.alloc (.cells #[.int .u8 (G:Int)] 5);have AT:Own (w2.alloc (.cells #[.int .u8 (G:Int)] 5)) (w.heap.size+1) 5 1 A2 4 c2 (o1.map u8v):=bW.alloc (.cells #[.int .u8 (G:Int)] 5);have IE:w.heap.size+1≤_:=Ee.lt;go_wp2_with(with_reducible refine h_A ?_);refine zc (yc slB rfl rfl rfl rfl AT CZ.rd (zM _) Wq Hj IE ?_);intro AA cA wA Ck fg _;have rS:=F9.grown fg F9.size (fun g hg=>by have:=(AT.blk_lt hg).1;omega);have rI:=Ee.grown fg (fun e=>by have:=(AT.blk_lt e.symm).1;omega);rw[←List.map_append]at Ck;have Fa:w.heap.size+1≤_:=rI.lt;clear k0 k1 k2 AT CZ Ee F9 fg IE;have k0:=rI.c0;have k1:=rI.c1;have k2:=rI.c2;(have Li:(o1++ [UInt8.ofNat G]).length=5:=by simp[gf]);clear gf bW bF Hn ep;generalize o1++ [UInt8.ofNat G]=oA at*;go_wp2_with(with_reducible refine h_A ?_);refine zc (qj slB underlying9 rfl rfl rfl rfl Ck Wq Fa ?_);intro AB cB wB F6 Fc;have o8:=rS.grown Fc rS.size (fun g hg=>by have:=(Ck.blk_lt hg).1;omega);rw[←List.map_append]at F6;have Ts:w.heap.size≤_:=o8.size;have dx:=rI.grown Fc (fun e=>by have:=(Ck.blk_lt e.symm).1;omega);clear k0 k1 k2 Fc Ck rI rS;have k0:=dx.c0;have k1:=dx.c1;have k2:=dx.c2;(have wi:(oA++g).length=5+G:=by rw[List.length_append,Li,HG.out]);clear Li;generalize oA++g=oB at*
   have Dg:Own (wB.alloc (.cells #[.int .u8 (H:Int)] 5)) wB.heap.size 5 1 (some ⟨wB.heap.size,0,none⟩) 1 1 ([UInt8.ofNat H].map u8v):=by
    have h:=yn (w:=wB) wB.heap.size #[.int .u8 (H:Int)] 5 1 (Nat.le_refl _) WX rfl (size:=1) Wq;rw[zdd (show H<256 by omega)]at h ⊢;exact h
   have ES:Below w.heap.size w (wB.alloc (.cells #[.int .u8 (H:Int)] 5)):=o8.alloc o8.size _;have FX:=dx.alloc (.cells #[.int .u8 (H:Int)] 5);have AY:Own (wB.alloc (.cells #[.int .u8 (H:Int)] 5)) (w.heap.size+1) 5 1 AB (5+g.length) cB (oB.map u8v):=F6.alloc (.cells #[.int .u8 (H:Int)] 5);have IZ:w.heap.size+1≤_:=FX.lt
 go_wp2_with(with_reducible refine h_A ?_)
 first
 | have qq39:=qq39
   refine hp.mono ?_;rintro e w3 ⟨A3,c3,rfl,Bv,bw⟩;have bG:=Hn.trans (bw.mono Hn.size);have bX:=bF.below bw;clear bF Hn hp k0 k1 k2 Hh bW;have k0:=bX.c0;have k1:=bX.c1;have k2:=bX.c2;have hp:=O3 A3 N2 c3 b2 h w3 Bv.rd Wq Wq;rw[YP h3,mm.out]at hp
   clear dG
 | refine zc (yc slB rfl rfl rfl rfl AY Dg.rd (zM _) Wq Hj IZ ?_)
   intro AC cC wC nB gA _;have wN:=ES.grown gA ES.size (fun g hg=>by have:=(AY.blk_lt hg).1;omega);have Ny:=FX.grown gA (fun e=>by have:=(AY.blk_lt e.symm).1;omega);rw[←List.map_append]at nB;have Fq:w.heap.size+1≤_:=Ny.lt;clear k0 k1 k2 AY Dg FX ES gA IZ;have k0:=Ny.c0;have k1:=Ny.c1;have k2:=Ny.c2;(have OM:(oB++ [UInt8.ofNat H]).length=5+G+1:=by simp[wi]);clear wi F6 dx o8 Ts;generalize oB++ [UInt8.ofNat H]=oC at*
 go_wp2_with(with_reducible refine h_A ?_)
 first
 | have qq39:=qq39
   refine hp.mono ?_;rintro e w4 ⟨A4,c4,rfl,Bq,Bn⟩;have Bf:=bG.trans (Bn.mono bG.size);have ct:=Bq.base_le bG.size
   clear hp k0 k1 k2 bX Bv Bq O3
 | refine zc (qj slB underlying9 rfl rfl rfl rfl nB Wq Fq ?_)
   intro AD cD wD oN Lg;have LR:=wN.grown Lg wN.size (fun g hg=>by have:=(nB.blk_lt hg).1;omega);rw[←List.map_append]at oN;have Tg:=LR.size;rw[mm.out]at oN;(have oc:5+g.length+1+h.length=by_.length:=by rw[dG,HG.out,HH.out];omega);have Mc:=Lib.hid oc;clear oc dG
 go_wp2_with(with_reducible refine h_A ?_);go_ret2
 first
 | have qq39:=qq39
   exact⟨A4,c4,rfl,ct,Bf⟩
 | rw[Mc.out]at oN ⊢
   exact⟨AD,cD,rfl,oN.base_le (Nat.le_succ _),LR⟩):p:=h
theorem Z4g_(h:p:=by
 go_wp2_with(with_reducible refine h_A ?_);refine zG rfl da rfl rfl underlying106 rfl Wj rfl ?_
 exact⟨mt0,none,0,5,rfl,RM.zero _ _,H3,.inr (.inr ⟨by omega,by rw[dB.out.1,dB.out.2];exact pV.out,.inr ⟨rfl,rfl,nh.out⟩⟩)⟩):p:=h
theorem Z3r_(h:p:=by
 first
 | have qqk1:=qqk1
   rw[decide_eq_false mc]at Ae
   have nh:Hid (∀m',yI m'=true→MB m'→putM m'≠b):=Lib.hid (fun m' h1 h2 h3=>by
    have e:=(cJ.out m' ⟨h1,h2,h3⟩).1;rw[e,Lo.out]at h3
    exact mc h3.symm)
   clear mc;go_wp2_with(with_reducible refine h_A ?_);refine Ae.mono ?_
   (rintro e w6 ⟨rfl,rfl⟩)
 | have qqh1:=qqh1
   have nh:Hid (∀m',yI m'=true→MB m'→putM m'≠b):=Lib.hid (fun m' h1 h2 h3=>by have:=(cJ.out m' ⟨h1,h2,h3⟩).2;cases this)
   clear Ae
 | obtain rfl:E=80:=by rw[HE.out,if_neg hE]
   have nh:Hid (∀m',yI m'=true→MB m'→putM m'≠b):=Lib.hid (fun m' h1 h2 h3=>by
    have e:=cJ.out m' ⟨h1,h2,h3⟩;rw[e]at h1
    exact hE h1)
   clear hE HE
 go_wp2_with(with_reducible refine h_B ?_);refine zc (zn (v:=.agg #[.int .u8 0,.int .u8 0,.bool false,.slice none 0 0]) (vs:=[.int .u8 0,.int .u8 0,.bool false,.slice none 0 0]) rfl rfl rfl rfl fT rfl Wj Wz qO #[.int .u8 0,.int .u8 0,.bool false,.slice none 0 0] Wz ?_);intro oq da BY _;first|(have qqk1:=qqk1;have H3:=bc.grown BY bc.size Wx)|(have qqh1:=qqh1;have H3:=bc.grown BY bc.size Wx)|(have H3:=(bc).grown BY (bc).size Wx)
 exact Z4g_):p:=h
theorem Z3m_(h:p:=by
 first
 | have qqfe:=qqfe
   (obtain rfl:E=0:=by rw[HE.out,if_pos hE]);have HG:=Lib.hid hE;clear hE HE
   by_cases mc:P=b
 | by_cases hE:yI M=true
 ·first
  | have qqfe:=qqfe
    (have hq:((str P).toList==(str b).toList)=true:=by rw[DY.out,decide_eq_true mc]);have Sf:=Lib.hid mc;clear mc;have y0:=gr.c0;have y1:=gr.c1;have y2:=gr.c2;have y3:=gr.c3;go_wp2_with(with_reducible refine h_B ?_);refine zc (zn (v:=.agg #[.int .u8 (x.toNat:Int),.int .u8 (y.toNat:Int),.bool sync,.slice A3 kd.length c3]) (vs:=[.int .u8 (x.toNat:Int),.int .u8 (y.toNat:Int),.bool sync,.slice A3 kd.length c3]) rfl rfl rfl rfl fT rfl Wj Wz qO #[.int .u8 (x.toNat:Int),.int .u8 (y.toNat:Int),.bool sync,.slice A3 kd.length c3] Wz ?_);intro oq da BY _;have H3:=bc.grown BY bc.size Wx;go_wp2_with(with_reducible refine h_A ?_);refine zG rfl da rfl rfl underlying106 rfl Wj rfl ?_;refine⟨M,A3,c3,0,by rw[HV.out];rfl,?_,H3,.inr (.inr ⟨by omega,by rw[dB.out.1,dB.out.2];exact pV.out,.inl ⟨rfl,L1.out,HG.out,by rw[Lo.out];exact Sf.out⟩⟩)⟩
    exact(EI.keep (fun g hg=>BY.block g hg.2 Hx) BY.size).mono (fun g hg=>⟨by have:=hg.1;omega,Nat.lt_of_lt_of_le hg.2 BY.size⟩)
  | obtain rfl:E=0:=by rw[HE.out,if_pos hE]
    have HG:=Lib.hid hE;clear hE HE;by_cases mc:b=P
    ·rw[decide_eq_true mc]at Ae;have Sf:=Lib.hid mc;clear mc;go_wp2_with(with_reducible refine h_A ?_);refine Ae.mono ?_;rintro e w6 ⟨rfl,rfl⟩;have y0:=gr.c0;have y1:=gr.c1;have y2:=gr.c2;have y3:=gr.c3;go_wp2_with(with_reducible refine h_B ?_);refine zc (zn (v:=.agg #[.int .u8 (x.toNat:Int),.int .u8 (y.toNat:Int),.bool sync,.slice A3 kd.length c3]) (vs:=[.int .u8 (x.toNat:Int),.int .u8 (y.toNat:Int),.bool sync,.slice A3 kd.length c3]) rfl rfl rfl rfl fT rfl Wj Wz qO #[.int .u8 (x.toNat:Int),.int .u8 (y.toNat:Int),.bool sync,.slice A3 kd.length c3] Wz ?_);intro oq da BY _;have H3:=bc.grown BY bc.size Wx;go_wp2_with(with_reducible refine h_A ?_);refine zG rfl da rfl rfl underlying106 rfl Wj rfl ?_;refine⟨M,A3,c3,0,by rw[HV.out];rfl,?_,H3,.inr (.inr ⟨by omega,by rw[dB.out.1,dB.out.2];exact pV.out,.inl ⟨rfl,L1.out,HG.out,by rw[Lo.out];exact Sf.out.symm⟩⟩)⟩;exact(EI.keep (fun g hg=>BY.block g hg.2 Hx) BY.size).mono (fun g hg=>⟨by have:=hg.1;omega,Nat.lt_of_lt_of_le hg.2 BY.size⟩)
    ·have qqk1:=();exact Z3r_
 first
 | have qqfe:=qqfe
   have hq:((str P).toList==(str b).toList)=false:=by rw[DY.out,decide_eq_false mc]
   have nh:Hid (∀m',yI m'=true→MB m'→putM m'≠b):=Lib.hid (fun m' h1 h2 h3=>by
    have e:=cJ.out m' ⟨h1,h2,h3⟩;rw[e,Lo.out]at h3
    exact mc h3)
   clear mc
 | obtain rfl:E=80:=by rw[HE.out,if_neg hE]
   have nh:Hid (∀m',yI m'=true→MB m'→putM m'≠b):=Lib.hid (fun m' h1 h2 h3=>by
    have e:=(cJ.out m' ⟨h1,h2,h3⟩).1;rw[e]at h1
    exact hE h1)
   clear hE HE Ae
 go_wp2_with(with_reducible refine h_B ?_);refine zc (zn (v:=.agg #[.int .u8 0,.int .u8 0,.bool false,.slice none 0 0]) (vs:=[.int .u8 0,.int .u8 0,.bool false,.slice none 0 0]) rfl rfl rfl rfl fT rfl Wj Wz qO #[.int .u8 0,.int .u8 0,.bool false,.slice none 0 0] Wz ?_);intro oq da BY _;first|(have qqfe:=qqfe;have H3:=(bc).grown BY (bc).size Wx)|(have H3:=bc.grown BY bc.size Wx)
 exact Z4g_):p:=h
theorem Zj_(h:p:=by
 have g1:¬(i:Int)<(kd.length:Int):=by omega
 obtain rfl:i=kd.length:=by omega
 first|done|(have qq3a:=qq3a)|(have Ob:w.heap.size≤bs:=by omega)
 have mi:=hS.rm (Nat.le_refl bs) x.toNat y.toNat sync (UInt8.toNat_lt x) (UInt8.toNat_lt y) (by have:=tD.out;omega);first|(have qq3a:=qq3a;have sL:=VR ⟨x.toNat,y.toNat,sync,xs.map (·.1)⟩ A3 c3 wr (mi.mono (fun g hg=>hg.2)))|(have sL:=R3.out ⟨x.toNat,y.toNat,sync,xs.map (·.1)⟩ A3 c3 wr rfl rfl (mi.mono (fun g hg=>hg.2)) hB)
 have eg:=Jb ⟨x.toNat,y.toNat,sync,xs.map (·.1)⟩;have Ed:=RM.ab mi;obtain⟨M,hM⟩:∃q,q=(⟨x.toNat,y.toNat,sync,xs.map (·.1)⟩:Mt):=⟨_,rfl⟩
 first
 | have qq3a:=qq3a
   have cJ:Hid (∀m',Told b m'→m'=M):=Lib.hid (fun m' pf=>by rw[hM,mg.out];exact(ReadTo.all uF.out t3.out CA.out pf).1)
 | have L5:=Lib.hid hM
   have cJ:Hid (∀m',Told b m'→m'=M∧b3=false):=Lib.hid (fun m' pf=>by rw[hM,mg.out];exact ReadTo.all uF.out t3.out CA.out pf)
 have e1:mtV (⟨x.toNat,y.toNat,sync,xs.map (·.1)⟩:Mt) A3 c3= #[.int .u8 (x.toNat:Int),.int .u8 (y.toNat:Int),.bool sync,.slice A3 kd.length c3]:=by unfold mtV;simp only[List.length_map,tD.out]
 have HV:Hid (mtV M A3 c3= #[.int .u8 (x.toNat:Int),.int .u8 (y.toNat:Int),.bool sync,.slice A3 kd.length c3]):=Lib.hid (by rw[hM];exact e1);rw[e1]at sL;unfold MPut at sL;rw[←hM]at sL eg Ed mi;have HE:Hid (errM M=if yI M=true then 0 else 80):=Lib.hid rfl;first|done|(have qq3a:=qq3a)|(have HP:Hid (putM M=putM M):=Lib.hid rfl)
 generalize IP:putM M=P at sL eg;generalize errM M=E at*;have Lo:=Lib.hid IP;have L1:=Lib.hid Ed;first|(have qq3a:=qq3a;clear hM e1 IP Ed CA mg hq)|(clear hM e1 IP Ed HP CA mg)
 have y0:=hm.c0;have y1:=hm.c1;have y2:=hm.c2;have y3:=hm.c3;go_wp2_with(with_reducible refine h_A ?_);refine sL.mono ?_;rintro e w5 ⟨UC,UL,rfl,ct,bw⟩;have gr:=hm.below bw;have fT:=hz.below bw;first|done|(have qq3a:=qq3a)|(have eo:MRd w5 w.heap.size rb l3 b3:=hR.kp ((KP.refl w.heap.size mb mb wr).below hB.size bw) Wq Wq)
 have bc:=hB.trans (bw.mono hB.size);have dv:RdB w5 w.heap.size (some ⟨g,off,none⟩) n c b:=hr.below bc;have EI:RM w5 (FN bs w5) M A3 c3:=(mi.keep (fun g hg=>bw.block g hg.2) bw.size).mono (fun g hg=>⟨hg.1,Nat.lt_of_lt_of_le hg.2 bw.size⟩)
 first
 | have qq3a:=qq3a
   have dE:=jf (w:=w5) ct.rd;have ff:=jf (w:=w5) dv
   have DY:Hid (((str P).toList==(str b).toList)=decide (P=b)):=Lib.hid (zbX _ _)
 | have Ae:=ZZ _ _ _ _ UC P.length UL P _ _ w5 dv ct.rd Wq Wq
   obtain⟨Ar,nr,cr,bU,_,_⟩:=eo;have q1:=bU.c1
 have SV:=gr.lt
 first
 | have qq3a:=qq3a
   clear sL y0 y1 y2 y3 hm hz hR hB hS mi r3;by_cases hE:yI M=true
   ·have qqfe:=();exact Z3m_
   ·exact Z3r_
 | clear sL y0 y1 y2 y3 hm hz hR hB hS Hp mi dv bU
   cases b3
   case true=>
    have qqh1:=();exact Z3r_
   case false=>
    exact Z3m_):p:=h
theorem Z3t_(h:p:=by
 have HV:=Lib.hid BV;clear BV
 first
 | have qqhc:=qqhc
   obtain rfl:OK=false:=by rw[Bz.out];simp[okA,zy,ag0,agN,agS,agX,agQ,agX2,xd0,cF.out,HN.out,HS.out,HQ.out,HV.out]
 | have qqhb:=qqhb
   obtain rfl:OK=false:=by rw[Bz.out];simp[okA,zy,ag0,agN,agS,agX,agQ,agX2,xd0,HN.out,HS.out,HX.out,HQ.out,HV.out]
 | obtain rfl:OK=false:=by rw[Bz.out];simp[okA,zy,ag0,agN,agS,agX,agQ,agX2,xd0,cF.out,HN.out,HS.out,HX.out,HV.out]
 exact Z4d_):p:=h
theorem Zk_(h:p:=by
 unfold agV;obtain⟨xb,w1,Hg,Hi,hX,Ha⟩:=zg w #[.bool a.is,.int .u64 (a.n:Int),.string (str a.s),.int .u32 (a.x.fmt:Int),.string (str a.x.glob),.string (str a.x.bran),.slice h.A a.q.length h.c,.int .u8 (a.v.kind:Int),.int .u64 (a.v.n:Int),.string (str a.v.s),.slice h.h.A1 a.v.keys.length h.h.c1,.slice h.h.A2 a.v.list.length h.h.c2] 80;have dC:=ha.up Ha;have cM:=qv a.v vl0 h.h ⟨none,0,none,0⟩ w1 dC.v (RV.zero _ _);unfold jI vlV vl0 at cM;obtain⟨sv,Bi⟩:∃s,s=yJ a.v (.mk 0 0 [] [] []):=⟨_,rfl⟩
 rw[←Bi]at cM;have BV:yJ a.v vl0=sv:=Bi.symm;clear Bi
 first
 | have qq3d:=qq3d
   obtain⟨OK,fK⟩:∃o,o=okA 120 a:=⟨_,rfl⟩
   obtain⟨L,hL⟩:∃l,l=byA 120 a:=⟨_,rfl⟩
 | have qq3c:=qq3c
   obtain⟨OK,fK⟩:∃o,o=okA 98 a:=⟨_,rfl⟩
   obtain⟨L,hL⟩:∃l,l=byA 98 a:=⟨_,rfl⟩
 | have qq3b:=qq3b
   obtain⟨OK,fK⟩:∃o,o=okA 118 a:=⟨_,rfl⟩
   obtain⟨L,hL⟩:∃l,l=byA 118 a:=⟨_,rfl⟩
 | obtain⟨OK,fK⟩:∃o,o=okA 114 a:=⟨_,rfl⟩
   obtain⟨L,hL⟩:∃l,l=byA 114 a:=⟨_,rfl⟩
 rw[←fK,←hL];have Bz:=Lib.hid fK;have HL:=Lib.hid hL;clear fK hL;have dD:=zi a.s;have c_0:=hX.c0;have c_1:=hX.c1;have c_2:=hX.c2;have c_3:=hX.c3;have c_4:=hX.c4;have c_5:=hX.c5;have c_6:=hX.c6;have c_7:=hX.c7;have c_8:=hX.c8;have c_9:=hX.c9;have c_10:=hX.c10;have c_11:=hX.c11;obtain⟨is,BR⟩:∃i,i=a.is:=⟨_,rfl⟩
 rw[←BR]at c_0
 first
 | have qq3d:=qq3d
   cases is
   ·have qqhh:=()
    exact Z3u_
 | have qq3c:=qq3c
   by_cases hn:a.n=0
 | cases is
   ·have qqhg:=();exact Z3u_
 ·first
  | have qq3d:=qq3d
    have cF:=Lib.hid BR.symm;clear BR
    by_cases hn:a.n=0
  | have qq3c:=qq3c
    (have gn:((a.n:Int)!=0)=false:=by simp;omega);have HN:=Lib.hid hn;clear hn
    by_cases hs:a.s=[]
  | have cF:=Lib.hid BR.symm
    clear BR;by_cases hn:a.n=0
  ·first
   | have qq3d:=qq3d
     (have gn:((a.n:Int)!=0)=false:=by simp;omega);have HN:=Lib.hid hn;clear hn
     by_cases hs:a.s=[]
   | have qq3c:=qq3c
     (have gs:((str a.s).toList != [])=false:=by rw[zl,hs];simp);(have sG:(str a.s).toList.isEmpty=true:=by rw[zl,hs];rfl);have HS:=Lib.hid hs;clear hs
     by_cases hx:a.x=xd0
   | have gn:((a.n:Int)!=0)=false:=by simp;omega
     have HN:=Lib.hid hn;clear hn;by_cases hs:a.s=[]
   ·first
    | have qq3d:=qq3d
      (have gs:((str a.s).toList != [])=false:=by rw[zl,hs];simp);(have sG:(str a.s).toList.isEmpty=true:=by rw[zl,hs];rfl);have HS:=Lib.hid hs;clear hs
      by_cases hq:a.q.length=0
    | have qq3c:=qq3c
      have mU:=fun x y=>run_eqGuard_agg (P:=prog) w1 .neq 73 x y #[.int .u32 (a.x.fmt:Int),.string (str a.x.glob),.string (str a.x.bran)] #[.int .u32 0,.string ⟨#[]⟩,.string ⟨#[]⟩] yw
      have hne:∀w,(binOp .neq 73 (.agg #[.int .u32 (a.x.fmt:Int),.string (str a.x.glob),.string (str a.x.bran)]) (.agg #[.int .u32 0,.string ⟨#[]⟩,.string ⟨#[]⟩])).run prog w= .ok (.bool false) w:=fun w=>by
       have:=yU a.x xd0 w;rw[decide_eq_true hx]at this;exact this
      have HX:=Lib.hid hx;clear hx
      by_cases hq:a.q.length=0
    | have gs:((str a.s).toList != [])=false:=by rw[zl,hs];simp
      (have sG:(str a.s).toList.isEmpty=true:=by rw[zl,hs];rfl);have HS:=Lib.hid hs;clear hs;by_cases hx:a.x=xd0
    ·first
     | have qq3d:=qq3d
       (have gq:¬(0:Int)<(a.q.length:Int):=by omega);have HQ:=Lib.hid (List.length_eq_zero_iff.1 hq);clear hq
       cases sv
       ·have qqhc:=()
        exact Z3t_
     | have qq3c:=qq3c
       (have gq:¬(0:Int)<(a.q.length:Int):=by omega);have HQ:=Lib.hid (List.length_eq_zero_iff.1 hq);clear hq
       cases sv
       ·have qqhb:=()
        exact Z3t_
     | have qq3b:=qq3b
       have mU:=fun x y=>run_eqGuard_agg (P:=prog) w1 .neq 73 x y #[.int .u32 (a.x.fmt:Int),.string (str a.x.glob),.string (str a.x.bran)] #[.int .u32 0,.string ⟨#[]⟩,.string ⟨#[]⟩] yw
       have hne:∀w,(binOp .neq 73 (.agg #[.int .u32 (a.x.fmt:Int),.string (str a.x.glob),.string (str a.x.bran)]) (.agg #[.int .u32 0,.string ⟨#[]⟩,.string ⟨#[]⟩])).run prog w= .ok (.bool false) w:=fun w=>by
        have:=yU a.x xd0 w;rw[decide_eq_true hx]at this;exact this
       have HX:=Lib.hid hx;clear hx
       by_cases hq:a.q.length=0
     | have mU:=fun x y=>run_eqGuard_agg (P:=prog) w1 .neq 73 x y #[.int .u32 (a.x.fmt:Int),.string (str a.x.glob),.string (str a.x.bran)] #[.int .u32 0,.string ⟨#[]⟩,.string ⟨#[]⟩] yw
       have hne:∀w,(binOp .neq 73 (.agg #[.int .u32 (a.x.fmt:Int),.string (str a.x.glob),.string (str a.x.bran)]) (.agg #[.int .u32 0,.string ⟨#[]⟩,.string ⟨#[]⟩])).run prog w= .ok (.bool false) w:=fun w=>by
        have:=yU a.x xd0 w;rw[decide_eq_true hx]at this;exact this
       have HX:=Lib.hid hx;clear hx
       cases sv
       ·exact Z3t_
     ·first
      | have qq3d:=qq3d
        have HV:=Lib.hid BV;clear BV;obtain rfl:L=a.x.put:=by rw[HL.out];simp[byA]
        have lH:Hid (OK=decide (((a.x.err:Nat):Int)=0)):=Lib.hid (by rw[Bz.out];simp[okA,zy,ag0,agN,agS,agX,agQ,agX2,xd0,cF.out,HN.out,HS.out,HQ.out,HV.out])
      | have qq3c:=qq3c
        have HV:=Lib.hid BV;clear BV;obtain rfl:OK=true:=by rw[Bz.out];simp[okA,zy,ag0,agN,agS,agX,agQ,agX2,xd0,HN.out,HS.out,HX.out,HQ.out,HV.out]
        obtain rfl:L=[]:=by rw[HL.out];simp[byA]
      | have qq3b:=qq3b
        (have gq:¬(0:Int)<(a.q.length:Int):=by omega);have HQ:=Lib.hid (List.length_eq_zero_iff.1 hq);clear hq;(obtain rfl:L=vlP a.v:=by rw[HL.out];simp[byA]);have lH:Hid (OK=decide (errV a.v=0)):=Lib.hid (by rw[Bz.out];simp[okA,zy,ag0,agN,agS,agX,agQ,agX2,xd0,J0,cF.out,HN.out,HS.out,HX.out,HQ.out]);clear cM BV;have hp:=Qz a.v h.h w1 dC.v;unfold vlV at hp;generalize vlP a.v=M at*;generalize errV a.v=E at*
        clear dC
      | have HV:=Lib.hid BV
        clear BV;(obtain rfl:L=yL a.q:=by rw[HL.out];simp[byA]);have lH:Hid (OK=decide (((ye a.q:Nat):Int)=0)):=Lib.hid (by rw[Bz.out];simp[okA,zy,ag0,agN,agS,agX,agQ,agX2,xd0,cF.out,HN.out,HS.out,HX.out,HV.out])
      go_enter func60,ntmps60;go_upto_region 1 with fail;rw[←Hg,←Hi];clear Hg Hi
      first
      | done
      | have qq3d:=qq3d
        go_wp2_with(with_reducible refine h_A ?_);refine cM.mono ?_;rintro e w2 ⟨rfl,Hc⟩;have Hk:=hX.below Hc;have db:=dC.up Hc;have H3:=Ha.trans (Hc.mono Ha.size);have cm:=H3.size;clear c_0 c_1 c_2 c_3 c_4 c_5 c_6 c_7 c_8 c_9 c_10 c_11;clear cM;have c_0:=Hk.c0;have c_1:=Hk.c1;have c_2:=Hk.c2;have c_3:=Hk.c3;have c_4:=Hk.c4;have c_5:=Hk.c5;have c_6:=Hk.c6;have c_7:=Hk.c7;have c_8:=Hk.c8;have c_9:=Hk.c9;have c_10:=Hk.c10;have c_11:=Hk.c11;have hp:=J1 a.x w2 db.x;unfold xdV at hp;generalize a.x.put=M at*;generalize((a.x.err:Nat):Int)=E at*
        clear dC db
      | have qq3c:=qq3c
      | have qq3b:=qq3b
      | go_wp2_with(with_reducible refine h_A ?_)
        refine cM.mono ?_;rintro e w2 ⟨rfl,Hc⟩;have Hk:=hX.below Hc;have db:=dC.up Hc;have H3:=Ha.trans (Hc.mono Ha.size);have cm:=H3.size;clear c_0 c_1 c_2 c_3 c_4 c_5 c_6 c_7 c_8 c_9 c_10 c_11;clear cM;have c_0:=Hk.c0;have c_1:=Hk.c1;have c_2:=Hk.c2;have c_3:=Hk.c3;have c_4:=Hk.c4;have c_5:=Hk.c5;have c_6:=Hk.c6;have c_7:=Hk.c7;have c_8:=Hk.c8;have c_9:=Hk.c9;have c_10:=Hk.c10;have c_11:=Hk.c11;have hp:=JY h.A a.q.length h.c a.q w2.heap.size w2 db.q.1 db.ok (Nat.le_refl _) (by have:=db.c;omega);generalize yL a.q=M at*;generalize((ye a.q:Nat):Int)=E at*;clear dC db
      go_wp2_with(with_reducible refine h_A ?_)
      first
      | have qq3d:=qq3d
        refine hp.mono ?_;rintro e w3 ⟨A3,c3,rfl,Bv,Hh⟩
        clear hp
      | have qq3c:=qq3c
        refine cM.mono ?_;rintro e w2 ⟨rfl,Hc⟩;have Hk:=hX.below Hc;have db:=dC.up Hc;have H3:=Ha.trans (Hc.mono Ha.size)
        have cm:=H3.size
      | refine hp.mono ?_
        rintro e w3 ⟨A3,c3,rfl,Bv,Hh⟩;clear hp
      clear c_0 c_1 c_2 c_3 c_4 c_5 c_6 c_7 c_8 c_9 c_10 c_11
      first
      | done
      | have qq3d:=qq3d
      | have qq3c:=qq3c
        clear cM;have c_0:=Hk.c0;have c_1:=Hk.c1;have c_2:=Hk.c2;have c_3:=Hk.c3;have c_4:=Hk.c4;have c_5:=Hk.c5;have c_6:=Hk.c6;have c_7:=Hk.c7;have c_8:=Hk.c8;have c_9:=Hk.c9;have c_10:=Hk.c10
        have c_11:=Hk.c11
      | skip
      go_wp2_with(with_reducible refine h_A ?_);go_ret2
      first
      | have qq3d:=qq3d
        refine⟨A3,_,c3,?_,H3.trans (Hh.mono cm),fun _=>⟨rfl,Own.base_le Bv cm⟩⟩;rw[lH.out]
        first|rfl|(simp;done)|(congr)
      | have qq3c:=qq3c
        exact⟨none,_,0,rfl,H3,fun _=>⟨rfl,Own.none_ _ _ _ _⟩⟩
      | have qq3b:=qq3b
        refine⟨A3,_,c3,?_,Ha.trans (Hh.mono Ha.size),fun _=>⟨rfl,Own.base_le Bv Ha.size⟩⟩;rw[lH.out]
        first|rfl|(simp;done)|(congr)
      | refine⟨A3,_,c3,?_,H3.trans (Hh.mono cm),fun _=>⟨rfl,Own.base_le Bv cm⟩⟩
        rw[lH.out];first|rfl|(simp;done)|(congr)
     first
     | done
     | have qq3d:=qq3d
     | have qq3c:=qq3c
     | have qq3b:=qq3b
       ·exact Z3u_
     | skip
    first
    | have qq3d:=qq3d
      (have gq:(0:Int)<(a.q.length:Int):=by omega);have HQ:Hid (¬a.q=[]):=Lib.hid (fun e=>hq (List.length_eq_zero_iff.2 e));clear hq
      obtain rfl:OK=false:=by rw[Bz.out];simp[okA,zy,ag0,agN,agS,agX,agQ,agX2,xd0,cF.out,HN.out,HS.out,HQ.out]
    | have qq3c:=qq3c
      (have gq:(0:Int)<(a.q.length:Int):=by omega);have HQ:Hid (¬a.q=[]):=Lib.hid (fun e=>hq (List.length_eq_zero_iff.2 e));clear hq
      obtain rfl:OK=false:=by rw[Bz.out];simp[okA,zy,ag0,agN,agS,agX,agQ,agX2,xd0,HN.out,HS.out,HX.out,HQ.out]
    | have mU:=fun x y=>run_eqGuard_agg (P:=prog) w1 .neq 73 x y #[.int .u32 (a.x.fmt:Int),.string (str a.x.glob),.string (str a.x.bran)] #[.int .u32 0,.string ⟨#[]⟩,.string ⟨#[]⟩] yw
      have hne:∀w,(binOp .neq 73 (.agg #[.int .u32 (a.x.fmt:Int),.string (str a.x.glob),.string (str a.x.bran)]) (.agg #[.int .u32 0,.string ⟨#[]⟩,.string ⟨#[]⟩])).run prog w= .ok (.bool true) w:=fun w=>by
       have:=yU a.x xd0 w;rw[decide_eq_false hx]at this;exact this
      have HX:Hid (¬a.x=⟨0,[],[]⟩):=Lib.hid hx;clear hx;obtain rfl:OK=false:=by rw[Bz.out];simp[okA,zy,ag0,agN,agS,agX,agQ,agX2,xd0,cF.out,HN.out,HS.out,HX.out]
    exact Z4l_
   first
   | have qq3d:=qq3d
     (have gs:((str a.s).toList != [])=true:=by rw[zl];simpa using hs);(have sG:(str a.s).toList.isEmpty=false:=by rw[zl];simpa using hs);have HS:=Lib.hid hs;clear hs
     obtain rfl:OK=false:=by rw[Bz.out];simp[okA,zy,ag0,agN,agS,agX,agQ,agX2,xd0,cF.out,HN.out,HS.out]
   | have qq3c:=qq3c
     have mU:=fun x y=>run_eqGuard_agg (P:=prog) w1 .neq 73 x y #[.int .u32 (a.x.fmt:Int),.string (str a.x.glob),.string (str a.x.bran)] #[.int .u32 0,.string ⟨#[]⟩,.string ⟨#[]⟩] yw
     have hne:∀w,(binOp .neq 73 (.agg #[.int .u32 (a.x.fmt:Int),.string (str a.x.glob),.string (str a.x.bran)]) (.agg #[.int .u32 0,.string ⟨#[]⟩,.string ⟨#[]⟩])).run prog w= .ok (.bool true) w:=fun w=>by
      have:=yU a.x xd0 w;rw[decide_eq_false hx]at this;exact this
     have HX:Hid (¬a.x=⟨0,[],[]⟩):=Lib.hid hx;clear hx
     obtain rfl:OK=false:=by rw[Bz.out];simp[okA,zy,ag0,agN,agS,agX,agQ,agX2,xd0,HN.out,HS.out,HX.out]
   | have gs:((str a.s).toList != [])=true:=by rw[zl];simpa using hs
     (have sG:(str a.s).toList.isEmpty=false:=by rw[zl];simpa using hs);have HS:=Lib.hid hs;clear hs;obtain rfl:OK=false:=by rw[Bz.out];simp[okA,zy,ag0,agN,agS,agX,agQ,agX2,xd0,cF.out,HN.out,HS.out]
   exact Z4l_
  first
  | have qq3d:=qq3d
    (have gn:((a.n:Int)!=0)=true:=by simp;omega);have HN:=Lib.hid hn;clear hn
    obtain rfl:OK=false:=by rw[Bz.out];simp[okA,zy,ag0,agN,agS,agX,agQ,agX2,xd0,cF.out,HN.out]
  | have qq3c:=qq3c
    (have gs:((str a.s).toList != [])=true:=by rw[zl];simpa using hs);(have sG:(str a.s).toList.isEmpty=false:=by rw[zl];simpa using hs);have HS:=Lib.hid hs;clear hs
    obtain rfl:OK=false:=by rw[Bz.out];simp[okA,zy,ag0,agN,agS,agX,agQ,agX2,xd0,HN.out,HS.out]
  | have gn:((a.n:Int)!=0)=true:=by simp;omega
    have HN:=Lib.hid hn;clear hn;obtain rfl:OK=false:=by rw[Bz.out];simp[okA,zy,ag0,agN,agS,agX,agQ,agX2,xd0,cF.out,HN.out]
  exact Z4l_
 first
 | done
 | have qq3d:=qq3d
 | have qq3c:=qq3c
   ·(have gn:((a.n:Int)!=0)=true:=by simp;omega);have HN:=Lib.hid hn;clear hn;obtain rfl:OK=false:=by rw[Bz.out];simp[okA,zy,ag0,agN,agS,agX,agQ,agX2,xd0,HN.out]
    exact Z4l_
 | skip):p:=h
theorem Zl_(h:p:=by
 first
 | have qq3f:=qq3f
   have cW:=Yn l;obtain⟨lr,fp⟩:∃y,y=(if(bad||decide (zO l≠0))=true then l else l.drop (qu l)):=⟨_,rfl⟩
   obtain⟨br,bU⟩:∃y,y=(bad||decide (zO l≠0)):=⟨_,rfl⟩
 | have qq3e:=qq3e
   have cW:=Jd l;rw[hg]at cW;obtain⟨lr,fp⟩:∃y,y=(if(bad||decide (er≠0))=true then l else l.drop n):=⟨_,rfl⟩
   obtain⟨br,bU⟩:∃y,y=(bad||decide (er≠0)):=⟨_,rfl⟩
 | have cW:=zbe l
   have GM:=zbf l;rw[hg]at cW GM;(obtain⟨lr,fp⟩:∃y,y=(if(bad||decide (er≠0))=true then l else l.drop n):=⟨_,rfl⟩);obtain⟨br,bU⟩:∃y,y=(bad||decide (er≠0)):=⟨_,rfl⟩
 rw[←fp,←bU];have oT:=Lib.hid fp;have og:=Lib.hid bU;clear fp bU;obtain⟨A,m,c,dh,hr,hm⟩:=h;have BC:l.length=m:=RdB.length hr;have fZ:=dh.lt;have CP:=ha.lt;have bL:B≤w.heap.size:=by omega
 first
 | have qq3f:=qq3f
   have fV:=VK A m c l w (yS hr bL) hm
 | have qq3e:=qq3e
   have fV:=VJ A m c l w (yS hr bL) hm
   rw[hg]at fV
 | have fV:=zbm A m c l w (yS hr bL) Wq hT
   rw[hg]at fV
 have c0:=dh.c0
 first
 | have qq3f:=qq3f
   generalize zO l=er at*;generalize qu l=n at*
   go_enter func134,ntmps134
 | have qq3e:=qq3e
   simp only at cW fV;unfold xdV at fV;clear hg
   go_enter func133,ntmps133
 | simp only at cW GM
   clear hg hT;go_enter func135,ntmps135
 go_wp2_with(with_reducible refine h_A ?_);refine fV.mono ?_
 first
 | have qq3f:=qq3f
   rintro e w4 ⟨A2,c2,rfl,Bq,Hc⟩;have eQ:=(KP.refl B rb ab w).below bL Hc;have dJ:=dh.below Hc;have rR:=ha.below Hc;have cQ:=hr.below (Hc.mono bL);have oK:=Hc.size
   clear fV c0 dh ha hr Hc
 | have qq3e:=qq3e
   rintro e w2 ⟨rfl,Hc⟩;have dS:=(KP.refl B rb ab w).below bL Hc;have bF:=dh.below Hc;have db:=ha.below Hc;have cH:=hr.below (Hc.mono bL);have cm:=Hc.size;have hz:=Box.new w2 #[.int .u32 0,.string ⟨#[]⟩,.string ⟨#[]⟩] 73;have cZ:=(Below.refl w2.heap.size w2).alloc (Nat.le_refl _) (.cells #[.int .u32 0,.string ⟨#[]⟩,.string ⟨#[]⟩] 73);have bX:=bF.below cZ;have ml:=db.below cZ;have cj:=cH.below (cZ.mono Wq);have BQ:=dS.below bL cZ;clear fV c0 dh ha hr Hc bF db cH dS;go_wp2_with(with_reducible refine h_B ?_);(obtain⟨zb,eP⟩:∃g,g=w2.heap.size:=⟨_,rfl⟩);rw[←eP]at hz cm ⊢;clear eP cZ;generalize(w2.alloc (.cells #[.int .u32 0,.string ⟨#[]⟩,.string ⟨#[]⟩] 73))=w3 at*;refine zc (zn (v:=.agg #[.int .u32 (x.fmt:Int),.string (str x.glob),.string (str x.bran)]) (vs:=[.int .u32 (x.fmt:Int),.string (str x.glob),.string (str x.bran)]) rfl rfl rfl rfl hz rfl Wj Wz mj #[.int .u32 (x.fmt:Int),.string (str x.glob),.string (str x.bran)] Wz ?_);intro w4 eR Ba _;have dJ:=bX.grown Ba (sne Wq);have rR:=ml.grown Ba (sne Wq);have cQ:=cj.grown Ba (by have:=hz.lt;omega) Wx;have eQ:=BQ.grown bL Ba (fun g hg=>by injection hg with hg;exact⟨by omega,.inr (.inr Wq)⟩);clear hz bX ml cj BQ Ba;have x0:=eR.c0;have x1:=eR.c1
   have x2:=eR.c2
 | rintro e w2 ⟨h1,rfl,hV,Hc⟩
   simp only at hV;unfold vlV;simp only;have dS:=(KP.refl B rb ab w).below bL Hc;have bF:=dh.below Hc;have db:=ha.below Hc;have cH:=hr.below (Hc.mono bL);have cm:=Hc.size;have hz:=Box.new w2 #[.int .u8 0,.int .u64 0,.string ⟨#[]⟩,.slice none 0 0,.slice none 0 0] 78;have cZ:=(Below.refl w2.heap.size w2).alloc (Nat.le_refl _) (.cells #[.int .u8 0,.int .u64 0,.string ⟨#[]⟩,.slice none 0 0,.slice none 0 0] 78);have bX:=bF.below cZ;have ml:=db.below cZ;have cj:=cH.below (cZ.mono Wq);have BQ:=dS.below bL cZ;have hV3:RV (w2.alloc (.cells #[.int .u8 0,.int .u64 0,.string ⟨#[]⟩,.slice none 0 0,.slice none 0 0] 78)) (FN w.heap.size (w2.alloc (.cells #[.int .u8 0,.int .u64 0,.string ⟨#[]⟩,.slice none 0 0,.slice none 0 0] 78))) x h1:=(hV.keep (fun g hg=>cZ.block g hg.2) cZ.size).mono (fun g hg=>⟨hg.1,Nat.lt_of_lt_of_le hg.2 cZ.size⟩);(have Ig:∀g,FN w.heap.size w2 g→g<w2.heap.size:=fun g hg=>hg.2);clear fV c0 dh ha hr Hc bF db cH dS;go_wp2_with(with_reducible refine h_B ?_);(obtain⟨zb,eP⟩:∃g,g=w2.heap.size:=⟨_,rfl⟩);rw[←eP]at hz cm ⊢;have M7:RV (w2.alloc (.cells #[.int .u8 0,.int .u64 0,.string ⟨#[]⟩,.slice none 0 0,.slice none 0 0] 78)) (fun g=>w.heap.size≤g∧g<zb) x h1:=(hV.keep (fun g hg=>cZ.block g hg.2) cZ.size).mono (fun g hg=>⟨hg.1,by rw[eP];exact hg.2⟩);clear eP cZ hV hV3 Ig;generalize(w2.alloc (.cells #[.int .u8 0,.int .u64 0,.string ⟨#[]⟩,.slice none 0 0,.slice none 0 0] 78))=w3 at*;refine zc (zn (v:=.agg #[.int .u8 (x.kind:Int),.int .u64 (x.n:Int),.string (str x.s),.slice h1.A1 x.keys.length h1.c1,.slice h1.A2 x.list.length h1.c2]) (vs:=[.int .u8 (x.kind:Int),.int .u64 (x.n:Int),.string (str x.s),.slice h1.A1 x.keys.length h1.c1,.slice h1.A2 x.list.length h1.c2]) rfl rfl rfl rfl hz rfl Wj Wz WQ #[.int .u8 (x.kind:Int),.int .u64 (x.n:Int),.string (str x.s),.slice h1.A1 x.keys.length h1.c1,.slice h1.A2 x.list.length h1.c2] Wz ?_);intro w4 eR Ba _;have dJ:=bX.grown Ba (sne Wq);have rR:=ml.grown Ba (sne Wq);have cQ:=cj.grown Ba (by have:=hz.lt;omega) Wx;have eQ:=BQ.grown bL Ba (fun g hg=>by injection hg with hg;exact⟨by omega,.inr (.inr Wq)⟩);have wK:=M7.keep (fun g hg=>Ba.block g (by have:=hz.lt;omega) (sne Wq)) Ba.size;clear hz bX ml cj BQ M7 Ba;have x0:=eR.c0;have x1:=eR.c1;have x2:=eR.c2;have x3:=eR.c3;have x4:=eR.c4
 go_wp2_with(with_reducible refine h_B ?_)
 first
 | have qq3f:=qq3f
   refine zc (zn (v:=.slice A2 (xN l).length c2) (vs:=[.slice A2 (xN l).length c2]) rfl rfl rfl rfl rR rfl Wj Wz wX #[.bool is,.int .u64 0,.string ⟨#[]⟩,.int .u32 0,.string ⟨#[]⟩,.string ⟨#[]⟩,.slice A2 (xN l).length c2,.int .u8 0,.int .u64 0,.string ⟨#[]⟩,.slice none 0 0,.slice none 0 0] Wz ?_)
 | have qq3e:=qq3e
   refine zc (zn (v:=.agg #[.int .u32 (x.fmt:Int),.string (str x.glob),.string (str x.bran)]) (vs:=[.int .u32 (x.fmt:Int),.string (str x.glob),.string (str x.bran)]) rfl rfl rfl rfl rR rfl Wj Wz mj #[.bool is,.int .u64 0,.string ⟨#[]⟩,.int .u32 (x.fmt:Int),.string (str x.glob),.string (str x.bran),.slice none 0 0,.int .u8 0,.int .u64 0,.string ⟨#[]⟩,.slice none 0 0,.slice none 0 0] Wz ?_)
 | refine zc (zn (v:=.agg #[.int .u8 (x.kind:Int),.int .u64 (x.n:Int),.string (str x.s),.slice h1.A1 x.keys.length h1.c1,.slice h1.A2 x.list.length h1.c2]) (vs:=[.int .u8 (x.kind:Int),.int .u64 (x.n:Int),.string (str x.s),.slice h1.A1 x.keys.length h1.c1,.slice h1.A2 x.list.length h1.c2]) rfl rfl rfl rfl rR rfl Wj Wz WQ #[.bool is,.int .u64 0,.string ⟨#[]⟩,.int .u32 0,.string ⟨#[]⟩,.string ⟨#[]⟩,.slice none 0 0,.int .u8 (x.kind:Int),.int .u64 (x.n:Int),.string (str x.s),.slice h1.A1 x.keys.length h1.c1,.slice h1.A2 x.list.length h1.c2] Wz ?_)
 intro w5 lw H9 _;have cT:=dJ.grown H9 (sne Wq);have dv:=cQ.grown H9 (by have:=rR.lt;omega) Wx;have Br:=eQ.grown bL H9 nX
 first
 | have qq3f:=qq3f
   have ct:OwnS w5 w.heap.size A2 (xN l).length c2 (xN l):=zk Bq H9 (fun g hg e=>by injection e with e;have:=(Bq.blk_lt hg).1;omega)
   clear dJ rR cQ eQ Bq H9
 | have qq3e:=qq3e
   have te:=eR.lt;have Gk:=H9.size
   clear eR dJ rR cQ eQ H9 x0 x1 x2
 | have uP:=wK.keep (fun g hg=>H9.block g (by have:=eR.lt;omega) (sne Wq)) H9.size
   have te:=eR.lt;have Gk:=H9.size;clear eR dJ rR cQ eQ wK H9 x0 x1 x2 x3 x4
 have tf:MRd w5 B rb l bad:=⟨A,m,c,cT,dv,hm⟩
 cases br
 ·have cY:bad=false∧er=0:=by
   have:=og.out.symm;simpa using this
  obtain⟨cY,oP⟩:=cY;subst cY oP;have ic:=Je tf hB n cW;go_wp2_with(with_reducible refine h_A ?_);refine ic.mono ?_;rintro e w6 ⟨rfl,uW,bz⟩;have tx:=lw.grown bz (sne Wq);have il:=Br.grown bL bz Uj;first|done|(have qq3f:=qq3f;have bR:=zk ct bz (fun g hg e=>by injection e with e;have:=(ct.blk_lt hg).1;omega))|(have qq3e:=qq3e)|(have dg:RV w6 (FN w.heap.size w6) x h1:=(uP.keep (fun g hg=>bz.block g Wq (sne Wq)) bz.size).mono (fun g hg=>⟨hg.1,by have:=bz.size;omega⟩))
  go_wp2_with(with_reducible refine h_A ?_);go_end0;have e2:=oT.out;simp at e2;rw[e2];first|(have qq3f:=qq3f;exact⟨A2,c2,⟨rfl,tx,uW,il⟩,bR⟩)|(have qq3e:=qq3e;exact⟨rfl,tx,uW,il⟩)|(exact⟨h1,⟨rfl,tx,uW,il⟩,dg⟩)
 have cY:bad=true∨er≠0:=by
  have:=og.out.symm;simpa using this
 first|(have qq3f:=qq3f;have ic:=ZO tf hB (n:Int) (er:Int) (cY.imp id (fun h=>by omega)))|(have qq3e:=qq3e;have ic:=ZO tf hB (n:Int) (er:Int) (cY.imp id (fun h=>by omega)))|(have ic:=ZO tf hB (n:Int) er cY)
 go_wp2_with(with_reducible refine h_A ?_);refine ic.mono ?_;rintro e w6 ⟨rfl,uW,bz⟩;have tx:=lw.grown bz (sne Wq);have il:=Br.grown bL bz Uj;first|done|(have qq3f:=qq3f;have bR:=zk ct bz (fun g hg e=>by injection e with e;have:=(ct.blk_lt hg).1;omega))|(have qq3e:=qq3e)|(have dg:RV w6 (FN w.heap.size w6) x h1:=(uP.keep (fun g hg=>bz.block g Wq (sne Wq)) bz.size).mono (fun g hg=>⟨hg.1,by have:=bz.size;omega⟩))
 go_wp2_with(with_reducible refine h_A ?_);go_end0;have e2:lr=l:=by rw[oT.out,←og.out,if_pos rfl]
 rw[e2]
 first|(have qq3f:=qq3f;exact⟨A2,c2,⟨rfl,tx,uW,il⟩,bR⟩)|(have qq3e:=qq3e;exact⟨rfl,tx,uW,il⟩)|(exact⟨h1,⟨rfl,tx,uW,il⟩,dg⟩)):p:=h
theorem Zm_(h:p:=by
 have fD:0<w.heap.size:=he.lt;have AS:=hb.lt;have c0:=hb.c0;have c2:=hb.c2;have bV:=qU lb 0 gp w c0 c2;have Dm:=Zt (off:=5) w _ hb (by simp[lk0]);first|(have qq3s:=qq3s;have dD:=zi amxB)|(have dD:=zi hdrB)
 go_enter func12,ntmps12;go_wp2_with(with_reducible refine h_B ?_);refine bV.mono ?_;rintro e w1 ⟨rfl,rfl⟩;clear bV;go_wp2_with(with_reducible refine h_B ?_);refine Dm.mono ?_;rintro e w1 ⟨rfl,bK,bN,cy⟩;clear Dm c0 c2;have D0:=Lib.hid cy;clear cy;replace bK:Box w1 lb 61 #[.int .u8 0,.slice none 0 0,.pointer (some ⟨gp,0,none⟩),.int .u64 255,.int .u64 4096,.pointer none,.slice none 0 0,.slice none 0 0]:=bK;have c1:=bK.c1;go_wp2_with(with_reducible refine h_B ?_);refine zc (xx rfl rfl rfl rfl bK (j:=7) (v:=.slice none 0 0) rfl Wj Wz ?_);intro w2 bF Hm ep;have MA:=Lib.hid ep;clear ep c1;replace bF:Box w2 lb 61 #[.int .u8 0,.slice none 0 0,.pointer (some ⟨gp,0,none⟩),.int .u64 255,.int .u64 4096,.pointer none,.slice none 0 0,.slice none 0 0]:=bF;have c1:=bF.c1;go_wp2_with(with_reducible refine h_B ?_);refine zc (jB (base:=w2.heap.size) slB underlying9 rfl rfl rfl rfl (Own.none_ w2 w2.heap.size 5 1) WJ (Nat.le_refl _) ?_);intro RA rc w3 eM H6 mr;have bX:=bF.grown H6 zAe;go_wp2_with(with_reducible refine h_B ?_);first|(have qq3s:=qq3s;refine zc (xx rfl rfl rfl rfl bX (j:=1) (v:=.slice RA 3 rc) rfl Wj Wz ?_))|(refine zc (xx rfl rfl rfl rfl bX (j:=1) (v:=.slice RA 8 rc) rfl Wj Wz ?_))
 intro w4 dJ Ba eR;have HZ4:=Lib.hid eR;clear eR c1;first|(have qq3s:=qq3s;replace dJ:Box w4 lb 61 #[.int .u8 0,.slice RA 3 rc,.pointer (some ⟨gp,0,none⟩),.int .u64 255,.int .u64 4096,.pointer none,.slice none 0 0,.slice none 0 0]:=dJ)|(replace dJ:Box w4 lb 61 #[.int .u8 0,.slice RA 8 rc,.pointer (some ⟨gp,0,none⟩),.int .u64 255,.int .u64 4096,.pointer none,.slice none 0 0,.slice none 0 0]:=dJ)
 have EO:blk RA≠some lb:=fun e=>by have:=(eM.blk_lt e).1;have:=D0.out;have:=MA.out;omega
 have sD:=zk eM Ba (fun k hk e=>EO zAb);have eQ:KeepF (fun k=>k=lb) w w4:=(((KeepF.grown (F:=fun k=>k=lb) bN (fun k hk=>.inl uj)).trans (.grown (F:=fun k=>k=lb) Hm (fun k hk=>.inl uj)) (fun k hk=>.inl hk)).trans (.grown (F:=fun k=>k=lb) H6 zAc) (fun k hk=>.inl hk)).trans (.grown (F:=fun k=>k=lb) Ba (fun k hk=>.inl uj)) (fun k hk=>.inl hk);have CC:MEnv w4:=he.onK eQ fL;first|(have qq3s:=qq3s;have cQ:RdB w4 w4.heap.size RA 3 rc amxB:=sD.rd)|(have cQ:RdB w4 w4.heap.size RA 8 rc hdrB:=sD.rd)
 have pq:w.heap.size≤w4.heap.size:=eQ.1;have OJ:=cQ.max;have Lm:rc-8≤maxLen:=by omega
 have c0:=dJ.c0
 first
 | have qq3s:=qq3s
   have eG:=Z5 lb 4096 w.heap.size 0 0 3 rc w4.heap.size _ _ _ (.pointer none) RA none [] amxB w4 CC dJ cQ (Nat.le_refl _) Wq (.inl rfl) (Own.none_ w4 w.heap.size 5 1) zAe pq Wq Wq fL fD WJ
 | have eG:=Zo lb 4096 w.heap.size 0 0 8 rc w4.heap.size _ _ _ (.pointer none) RA none [] hdrB w4 CC dJ cQ (Nat.le_refl _) Wq (.inl rfl) (Own.none_ w4 w.heap.size 5 1) zAe pq Wq Wq fL fD rfl
 clear bK bF bX eM sD cQ bN Hm H6 Ba;go_wp2_with(with_reducible refine h_B ?_);refine eG.mono ?_
 first
 | have qq3s:=qq3s
   rintro e w6 ⟨rfl,⟨A2,c2,di,lN,nk,wW⟩,Br⟩;clear eG c0;replace di:Box w6 lb 61 #[.int .u8 5,.slice RA 3 rc,.pointer (some ⟨gp,0,none⟩),.int .u64 255,.int .u64 4096,bPtr lb 5,.slice A2 hdrB.length c2,.slice none 0 0]:=di;replace lN:Own w6 w.heap.size 5 1 A2 hdrB.length c2 (hdrB.map u8v):=lN;obtain⟨OUT,ln⟩:∃o,o=hdrB:=⟨_,rfl⟩
   rw[←ln]at di lN
 | rintro e w5 ⟨rfl,_,⟨A2,c2,cT,gj,nk,wW⟩,Br⟩
   clear eG;replace cT:Box w5 lb 61 #[.int .u8 1,.slice (cutA RA 1 8 rc) 0 (rc-8),.pointer (some ⟨gp,0,none⟩),.int .u64 255,.int .u64 4096,bPtr lb 5,.slice A2 (hdrB++ctlB 4096 startB).length c2,.slice none 0 0]:=cT;replace gj:Own w5 w.heap.size 5 1 A2 (hdrB++ctlB 4096 startB).length c2 ((hdrB++ctlB 4096 startB).map u8v):=gj;(obtain⟨OUT,ln⟩:∃o,o=hdrB++ctlB 4096 startB:=⟨_,rfl⟩);rw[←ln]at cT gj
 have tG:=Lib.hid ln;clear ln
 first
 | have qq3s:=qq3s
   have c5:=di.c0;have uY:KeepF (fun k=>k=lb) w w6:=eQ.trans Br (fun k hk=>by rcases hk with hk|hk;exact .inl hk;cases hk)
   clear Br eQ
 | have nt:=XA lb 0 (rc-8) _ _ _ _ _ _ _ (cutA RA 1 8 rc) [] w5 cT (Rd.nil _ _ _ _ Lm _) Wq WJ
   have c5:=cT.c0;clear c0;go_wp2_with(with_reducible refine h_B ?_);refine nt.mono ?_;rintro e w6 ⟨rfl,di,il⟩;clear nt c5 cT;have lN:=zw gj il (fun k hk e=>nk (by rw[hk,e]));have uY:KeepF (fun k=>k=lb) w w6:=(eQ.trans Br (fun k hk=>by rcases hk with hk|hk;exact .inl hk;cases hk)).trans il (fun k hk=>.inl hk);clear gj Br il eQ
 go_wp2
 first
 | have qq3s:=qq3s
   refine zt (fun W:World=>Box W lb 61 #[.int .u8 5,.slice RA 3 rc,.pointer (some ⟨gp,0,none⟩),.int .u64 255,.int .u64 4096,bPtr lb 5,.slice A2 OUT.length c2,.slice none 0 0]) Wj ?_
   have hS:Box w6.drew lb 61 #[.int .u8 5,.slice RA 3 rc,.pointer (some ⟨gp,0,none⟩),.int .u64 255,.int .u64 4096,bPtr lb 5,.slice A2 OUT.length c2,.slice none 0 0]:=di
 | refine zt (fun W:World=>Box W lb 61 #[.int .u8 1,.slice (cutA RA 1 8 rc) 0 0,.pointer (some ⟨gp,0,none⟩),.int .u64 255,.int .u64 4096,bPtr lb 5,.slice A2 OUT.length c2,.slice none 0 0]) Wj ?_
   have hS:Box w6.drew lb 61 #[.int .u8 1,.slice (cutA RA 1 8 rc) 0 0,.pointer (some ⟨gp,0,none⟩),.int .u64 255,.int .u64 4096,bPtr lb 5,.slice A2 OUT.length c2,.slice none 0 0]:=di
 have lL:Own w6.drew w.heap.size 5 1 A2 OUT.length c2 (OUT.map u8v):=lN;have iI:KeepF (fun k=>k=lb) w w6.drew:=uY.trans (KeepF.below (F:=fun k=>k=lb) (za (Below.refl _ _) 1)) (fun k hk=>.inl hk);clear di lN uY;generalize w6.drew=w7 at*;have t6:=Za (off:=5) (n:=OUT.length) (c:=c2) w7 _ hS A2 OUT rfl lL;refine rg_t 0 hS ?_;simp only[List.getElem_toArray,List.getElem_cons_zero,Act.put,List.setIfInBounds_toArray,List.set_cons_zero,List.set_cons_succ];refine rg_t 1 hS ?_;simp only[g_S];refine rg_t 2 hS ?_;simp only[g_S];refine rg_t 4 hS ?_;simp only[g_S];refine rg_t 5 hS ?_;simp only[g_S];refine rg_t 6 hS ?_;simp only[g_S];refine ze 7 (v:=?_) rfl Wj Wj Wj hS rfl ?_ ?_;rotate_left
 ·intro wS He;have k0:=He.cell (j:=7) rfl;go_simp;(with_reducible rfl)
 simp only[g_S];refine zj 3 rfl Wj rfl (fun K hK=>?_);go_simp
 (with_reducible refine t6.mono ?_)
 rintro e w8 ⟨rfl,gz⟩;have cE:=zU hS gz nk;refine hK _ _ cE ?_;clear hK K;try simp only[g_S]
 refine rg_t 8 cE ?_;simp only[g_S];refine rg_t 9 cE ?_;simp only[g_S];refine zz Wj ?_;go_wp2_with(with_reducible refine h_B ?_);go_ret2
 exact⟨by rw[←tG.out];rfl,cE.cell (j:=0) rfl,cE.cell (j:=2) rfl,iI.trans gz (fun k hk=>.inr (lL.blk_lt hk).1)⟩):p:=h
theorem Zn_(h:p:=by
 first
 | have qq3t:=qq3t
   have mG:fr=0:=by have:=Od.out;rw[Cw]at this;simpa using this
 | have mG:¬fr=0:=by have:=Od.out;rw[Cw]at this;simpa using this
   have g2:(fr:Int)<(LL:Int):=by omega
 have iA:=Lib.hid fH;clear fH mG;subst Cw;go_upto_region 14 with fail;refine zt (fun W:World=>Box W xb 42 #[.int .u16 (ch:Int),.int .u8 (tr:Int),.slice (some ⟨b,off,none⟩) n c]∧W.cell? ⟨b,off+i*2,none⟩=some (.int .u8 (ty:Int))) Wj ?_;have Bn:Below w.heap.size w wr.drew:=za bP 1;have hS:Box wr.drew xb 42 #[.int .u16 (ch:Int),.int .u8 (tr:Int),.slice (some ⟨b,off,none⟩) n c]∧wr.drew.cell? ⟨b,off+i*2,none⟩=some (.int .u8 (ty:Int)):=⟨hX,dA _ Bn⟩;have lL:OwnF wr.drew (xb+1) A2 N c2 D:=hO;have sP:=hX.lt;clear hX hO bP od;generalize wr.drew=w7 at*;refine rg_t 0 hS ?_;simp only[List.getElem_toArray,List.getElem_cons_zero,Act.put,List.setIfInBounds_toArray,List.set_cons_zero,List.set_cons_succ];refine rg_t 1 hS ?_;simp only[g_S];refine rg_t 2 hS ?_;simp only[g_S];refine rg_t 3 hS ?_;simp only[g_S];refine rg_t 4 hS ?_;simp only[g_S];refine ze 5 (v:=?_) rfl Wj Wj Wj hS rfl ?_ ?_;rotate_left
 ·intro wS He;have k:=He.1.cell (j:=2) rfl;go_simp;(with_reducible rfl)
 simp only[g_S];refine rg_t 6 hS ?_;simp only[g_S];refine rg_t 7 hS ?_;simp only[g_S];refine rg_t 8 hS ?_;simp only[g_S];refine rg_t 9 hS ?_;simp only[g_S];refine rg_t 10 hS ?_;simp only[g_S];refine rg_t 11 hS ?_;simp only[g_S];refine rg_t 12 hS ?_;simp only[g_S];refine rg_t 13 hS ?_;simp only[g_S];refine rg_t 14 hS ?_;simp only[g_S];refine rg_t 15 hS ?_;simp only[g_S];refine ze 16 (v:=?_) rfl Wj Wj Wj hS rfl ?_ ?_;rotate_left
 ·intro wS He;have k:=He.1.cell (j:=2) rfl;go_simp;(with_reducible rfl)
 simp only[g_S];refine rg_t 17 hS ?_;simp only[g_S];refine rg_t 18 hS ?_;simp only[g_S];refine rg_t 19 hS ?_;simp only[g_S];refine ze 20 (v:=?_) rfl Wj Wj Wj hS rfl ?_ ?_;rotate_left
 ·intro wS He;have k:=He.2;go_simp;(with_reducible rfl)
 simp only[g_S];refine rg_t 21 hS ?_;simp only[g_S];refine ze 22 (v:=?_) rfl Wj Wj Wj hS rfl ?_ ?_;rotate_left
 ·intro wS He;have k:=He.1.cell (j:=1) rfl;go_simp;(with_reducible rfl)
 simp only[g_S];refine rg_t 23 hS ?_;simp only[g_S];refine ze 24 (v:=?_) rfl Wj Wj Wj hS rfl ?_ ?_;rotate_left
 ·intro wS He;have k:=He.1.cell (j:=0) rfl;go_simp;(with_reducible rfl)
 simp only[g_S];refine rg_t 25 hS ?_;simp only[g_S];refine rg_t 26 hS ?_;simp only[g_S];refine rg_t 27 hS ?_;simp only[g_S];refine ze 28 (v:=?_) rfl Wj Wj Wj hS rfl ?_ ?_;rotate_left
 ·intro wS He;rw[qL (x:=.tmp 75) (lo:=some<| .tmp 76) (hi:=some<| .tmp 77) underlying9 (l:=s) (i:=fr) (j:=to_)]<;>first|rfl|omega|exact .inl ⟨rfl,rfl⟩|exact .inr ⟨_,_,rfl,rfl⟩
 simp only[g_S];refine rg_t 29 hS ?_;simp only[g_S];obtain⟨PC,tA⟩:∃q,q=(s.take to_).drop fr:=⟨_,rfl⟩
 rw[←tA];have GW:=Lib.hid tA;clear tA;refine zj 30 rfl Wj rfl (fun K hK=>?_);go_simp;refine hK _ _ ⟨hS.1.alloc _,dA _ (Bn.alloc Bn.size _)⟩ ?_;clear hK K;try simp only[g_S]
 refine zj 31 rfl Wj rfl (fun K hK=>?_);first|(have qq3t:=qq3t;refine jR (W:=w7) yE slF underlying65 rfl rfl rfl rfl (⟨b1,b2,true,fi,ty,tr,ch,PC⟩:Fr) rfl lL Wq Wq (by have:=hS.1.lt;omega) ?_)|(refine jR (W:=w7) yE slF underlying65 rfl rfl rfl rfl (⟨b1,b2,false,fi,ty,tr,ch,PC⟩:Fr) rfl lL Wq Wq (by have:=hS.1.lt;omega) ?_)
 intro A3 c3 w8 Gx H5 Cj Fz;have cq:=hS.1.grown H5 (fun e=>by have:=(lL.blk_lt e.symm).1;omega);have Bf:Below w.heap.size w w8:=Bn.grown H5 Bn.size (fun g hg=>by have:=(lL.blk_lt hg).1;omega);refine hK _ _ ⟨cq,dA _ Bf⟩ ?_;have hS:=dA _ Bf;clear hK K lL H5 Cj Fz Bn;try simp only[g_S]
 refine ze 32 (v:=?_) rfl Wj Wj Wj ⟨cq,hS⟩ rfl ?_ ?_;rotate_left
 ·intro wS He;go_simp;(with_reducible rfl)
 simp only[g_S];refine zz Wj ?_
 first
 | have qq3t:=qq3t
   have Cv:Hid ((D++ [(⟨b1,b2,true,fi,ty,tr,ch,PC⟩:Fr)]).length=N+1):=Lib.hid (by have:=HD.out;simp;omega)
   have HE:Hid (FS=(D++ [(⟨b1,b2,true,fi,ty,tr,ch,PC⟩:Fr)])++((if fr+M=0∨fr+M<LL then cutN M ⟨b1,b2,decide (fr+M=0),false,ty,tr,ch,[]⟩ (s.drop (fr+M))else [])++T)):=Lib.hid (by
    have h1:=N7.out;have h2:=pJ.out;have h0:=iA.out;have r9:=pV.out;(have tn:(s.drop fr).length=LL-fr:=by rw[List.length_drop,←h2]);have Lj:=GW.out;(have MU:(s.take to_).drop fr=(s.drop fr).take (to_-fr):=by rw[List.drop_take]);rw[HC.out,decide_eq_false (by omega:¬fr+M=0)];by_cases gu:LL-fr≤M
    ·(have sY:to_=LL:=by omega);rw[kP Wq,if_neg Wq,Lj,MU,sY,List.take_of_length_le Wq,r9,decide_eq_true sY];simp
    ·(have sY:to_=fr+M:=by omega);rw[kQ Ek Wq,if_pos Wq,Lj,MU,sY,r9,decide_eq_false Wq,List.drop_drop]
     simp)
 | have Cv:Hid ((D++ [(⟨b1,b2,false,fi,ty,tr,ch,PC⟩:Fr)]).length=N+1):=Lib.hid (by have:=HD.out;simp;omega)
   have HE:Hid (FS=(D++ [(⟨b1,b2,false,fi,ty,tr,ch,PC⟩:Fr)])++((if fr+M=0∨fr+M<LL then cutN M ⟨b1,b2,decide (fr+M=0),false,ty,tr,ch,[]⟩ (s.drop (fr+M))else [])++T)):=Lib.hid (by
    have h1:=N7.out;have h2:=pJ.out;have h0:=iA.out;have r9:=pV.out;(have tn:(s.drop fr).length=LL-fr:=by rw[List.length_drop,←h2]);have Lj:=GW.out;(have MU:(s.take to_).drop fr=(s.drop fr).take (to_-fr):=by rw[List.drop_take]);rw[HC.out,decide_eq_false (by omega:¬fr+M=0)];by_cases gu:LL-fr≤M
    ·(have sY:to_=LL:=by omega);rw[kP Wq,if_neg Wq,Lj,MU,sY,List.take_of_length_le Wq,r9,decide_eq_true sY];simp
    ·(have sY:to_=fr+M:=by omega);rw[kQ Ek Wq,if_pos Wq,Lj,MU,sY,r9,decide_eq_false Wq,List.drop_drop]
     simp)
 have tF:N+1≤16388:=by
  have h1:=Cv.out;have h2:=congrArg List.length HE.out;have h3:=HM.out;simp only[List.length_append]at h1 h2;omega
 clear HC iA pV N7 Od hS pL m8;go_wp2_with(with_reducible refine h_A ?_)
 exact⟨⟨N+1,c3,fr+M,A3,_,rfl,by go_num,by omega,tF,Cv,HE,Gx,cq,Bf⟩,by simp[RowKit.intOf];omega⟩):p:=h
theorem Zo_(h:p:=by
 first
 | have qq3v:=qq3v
   (obtain⟨rfl,rfl⟩:bf=true∧bl=true:=by simpa using ei);clear ei;go_upto_region 21 with fail;refine zt (fun W:World=>Box W pb 88 #[.map (some mb),.bool false]∧Box W kb 156 #[.int .i64 (f.chan:Int),.int .i64 (f.track:Int)]) Wj ?_
   have hS:Box wa.drew pb 88 #[.map (some mb),.bool false]∧Box wa.drew kb 156 #[.int .i64 (f.chan:Int),.int .i64 (f.track:Int)]:=⟨dy.bp,dy.bk⟩
 | have qq3u:=qq3u
   go_upto_region 23 with fail;refine zt (fun W:World=>Box W pb 88 #[.map (some mb),.bool false]∧Box W kb 156 #[.int .i64 (f.chan:Int),.int .i64 (f.track:Int)]∧Box W qb 158 #[.slice (some ⟨gb,0,none⟩) (L0.length+1) c1,.int .i64 ((SZ:Int)+(f.load.length:Int)),.bool y.first,.bool y.last,.bool y.beg,.bool y.fin,.int .u8 (y.ty:Int),.int .u8 (y.track:Int),.int .u16 (y.chan:Int),.string (str y.load),.bool (!true)]) Wj ?_
   have hS:Box wa.drew pb 88 #[.map (some mb),.bool false]∧Box wa.drew kb 156 #[.int .i64 (f.chan:Int),.int .i64 (f.track:Int)]∧Box wa.drew qb 158 #[.slice (some ⟨gb,0,none⟩) (L0.length+1) c1,.int .i64 ((SZ:Int)+(f.load.length:Int)),.bool y.first,.bool y.last,.bool y.beg,.bool y.fin,.int .u8 (y.ty:Int),.int .u8 (y.track:Int),.int .u16 (y.chan:Int),.string (str y.load),.bool (!true)]:=⟨dy.bp,dy.bk,dy.bq⟩
 | have hnf:(!false)=true:=rfl
   go_upto_region 23 with fail;refine zt (fun W:World=>Box W pb 88 #[.map (some mb),.bool false]∧Box W kb 156 #[.int .i64 (f.chan:Int),.int .i64 (f.track:Int)]∧Box W qb 158 #[.slice (some ⟨gb,0,none⟩) (L0.length+1) c1,.int .i64 ((SZ:Int)+(f.load.length:Int)),.bool y.first,.bool y.last,.bool y.beg,.bool y.fin,.int .u8 (y.ty:Int),.int .u8 (y.track:Int),.int .u16 (y.chan:Int),.string (str y.load),.bool (!false)]) Wj ?_;have hS:Box wa.drew pb 88 #[.map (some mb),.bool false]∧Box wa.drew kb 156 #[.int .i64 (f.chan:Int),.int .i64 (f.track:Int)]∧Box wa.drew qb 158 #[.slice (some ⟨gb,0,none⟩) (L0.length+1) c1,.int .i64 ((SZ:Int)+(f.load.length:Int)),.bool y.first,.bool y.last,.bool y.beg,.bool y.fin,.int .u8 (y.ty:Int),.int .u8 (y.track:Int),.int .u16 (y.chan:Int),.string (str y.load),.bool (!false)]:=⟨dy.bp,dy.bk,dy.bq⟩
 have DA:wa.drew.ownsMap prog 156 rawV mb n D:=se;replace dy:=dy.drew;clear se dV f0 f1 f2 f3 f4 f5 f6 f7 df cx;generalize wa.drew=v1 at*
 first
 | have qq3v:=qq3v
   obtain⟨v2,bu,ct,C2⟩:=DA.drop gk_keyed underlying86 (vN (a:=f.chan) (b:=f.track) gD (show f.track<65536 by omega)) 0
 | have qq3u:=qq3u
   obtain⟨v2,bu,ct,C2⟩:=DA.store gk_keyed underlying86 (show n<maxLen by simp[maxLen];omega) (vN (a:=f.chan) (b:=f.track) gD (show f.track<65536 by omega)) (val:=.agg #[.slice (some ⟨gb,0,none⟩) (L0.length+1) c1,.int .i64 ((SZ:Int)+(f.load.length:Int)),.bool y.first,.bool y.last,.bool y.beg,.bool y.fin,.int .u8 (y.ty:Int),.int .u8 (y.track:Int),.int .u16 (y.chan:Int),.string (str y.load),.bool (!true)]) rfl
 | obtain⟨v2,bu,ct,C2⟩:=DA.store gk_keyed underlying86 (show n<maxLen by simp[maxLen];omega) (vN (a:=f.chan) (b:=f.track) gD (show f.track<65536 by omega)) (val:=.agg #[.slice (some ⟨gb,0,none⟩) (L0.length+1) c1,.int .i64 ((SZ:Int)+(f.load.length:Int)),.bool y.first,.bool y.last,.bool y.beg,.bool y.fin,.int .u8 (y.ty:Int),.int .u8 (y.track:Int),.int .u16 (y.chan:Int),.string (str y.load),.bool (!false)]) rfl
 unfold gkV at bu;have H9:=C2.grown;refine rg_t 0 hS ?_;simp only[List.getElem_toArray,List.getElem_cons_zero,Act.put,List.setIfInBounds_toArray,List.set_cons_zero,List.set_cons_succ];refine rg_t 1 hS ?_;simp only[g_S];refine rg_t 2 hS ?_;simp only[g_S];refine ze 3 (v:=?_) rfl Wj Wj Wj hS rfl ?_ ?_;rotate_left
 ·intro wS He;have k0:=He.1.cell (j:=0) rfl;go_simp;(with_reducible rfl)
 simp only[g_S];refine ze 4 (v:=?_) rfl Wj Wj Wj hS rfl ?_ ?_
 first
 | done
 | have qq3v:=qq3v
 | rotate_left
   ·intro wS He;have k0:=He.2.1.cell (j:=0) rfl;have k1:=He.2.1.cell (j:=1) rfl;go_simp;(with_reducible rfl)
   simp only[g_S];refine ze 5 (v:=?_) rfl Wj Wj Wj hS rfl ?_ ?_
 rotate_left
 first
 | have qq3v:=qq3v
   ·intro wS He;have k0:=He.2.cell (j:=0) rfl;have k1:=He.2.cell (j:=1) rfl;go_simp;(with_reducible rfl)
 | ·intro wS He;have k:=He.2.2;have q0:=k.cell (j:=0) rfl;have q1:=k.cell (j:=1) rfl;have q2:=k.cell (j:=2) rfl;have q3:=k.cell (j:=3) rfl;have q4:=k.cell (j:=4) rfl;have q5:=k.cell (j:=5) rfl;have q6:=k.cell (j:=6) rfl;have q7:=k.cell (j:=7) rfl;have q8:=k.cell (j:=8) rfl;have q9:=k.cell (j:=9) rfl;have Dk:=k.cell (j:=10) rfl;go_simp;(with_reducible rfl)
 simp only[g_S]
 first
 | have qq3v:=qq3v
   refine zj 5 rfl Wj rfl (fun K hK=>?_)
   refine Kt rfl rfl rfl rfl bu ?_
 | refine zj 6 rfl Wj rfl (fun K hK=>?_)
   refine vM rfl rfl rfl rfl bu ?_
 have BN:=hS.1.grown H9 (fun e=>hne NX)
 first
 | have qq3v:=qq3v
   have bY:=hS.2.grown H9 (fun e=>pz NX)
 | have bY:=hS.2.1.grown H9 (fun e=>pz NX)
   have po:=hS.2.2.grown H9 (fun e=>Sk NX)
 have dv:=dy.br.grown H9 (fun e=>nN NX);unfold asZ at dv
 first
 | have qq3v:=qq3v
   have pw:=dy.bf.grown H9 (fun e=>AI NX);unfold frV at pw
   have pS:=dy.bq.grown H9 (fun e=>Sk NX)
 | skip
 have o7:=zk dy.row H9 (fun k hk e=>bM ((show some gb=some k from hk).trans e.symm));have Br:=(dy.keep.weak (G:=fun k=>k=mb∨blk H.A=some k) (fun k hk=>.inl (.inr hk))).trans (.grown (F:=fun k=>k=mb) H9 (fun k hk=>.inl uj)) (fun k hk=>.inl (.inl hk))
 first
 | have qq3v:=qq3v
   refine hK _ _ ⟨BN,bY⟩ ?_
   clear hK K hS bY dy H9 C2 bu DA
 | refine hK _ _ ⟨BN,bY,po⟩ ?_
   clear hK K hS bY po dy H9 C2 bu DA
 try simp only[g_S]
 refine zz Wj ?_
 first
 | have qq3v:=qq3v
   have f5:=pw.c5;have f6:=pw.c6
   have q0:=pS.c0
 | skip
 go_wp2_with(with_reducible refine h_B ?_)
 first
 | have qq3v:=qq3v
   refine zc (zn (v:=.agg #[.int .u16 (f.chan:Int),.int .u8 (f.track:Int),.slice (some ⟨gb,0,none⟩) (L0.length+1) c1]) (vs:=[.int .u16 (f.chan:Int),.int .u8 (f.track:Int),.slice (some ⟨gb,0,none⟩) (L0.length+1) c1]) rfl rfl rfl rfl dv rfl Wj Wz WZ #[.int .u16 (f.chan:Int),.int .u8 (f.track:Int),.slice (some ⟨gb,0,none⟩) (L0.length+1) c1] Wz ?_)
 | refine zc (zn (v:=.agg #[.int .u16 0,.int .u8 0,.slice none 0 0]) (vs:=[.int .u16 0,.int .u8 0,.slice none 0 0]) rfl rfl rfl rfl dv rfl Wj Wz WZ #[.int .u16 0,.int .u8 0,.slice none 0 0] Wz ?_)
 intro wz nu BP ef;have eA:=BN.grown BP (sne Wq);have r8:=Br.trans (.grown (F:=fun k=>k=rb) BP (fun k hk=>.inl uj)) (fun k hk=>.inr (by rw[hk];exact lp));have Eu:=yj ct (BP.block mb (by have:=ct.lt;omega) (by intro e;injection e with e;exact nN e.symm))
 have oz:=zk o7 BP (fun k hk e=>by
  injection e with e
  have h0:=rI k hk;rcases h0 with h|h
  ·have:=kr hm HF.out sK (fun e=>(Dc.out e).1) (fun e=>(u6.out e).1) h;omega
  ·exact mE (by injection hk with hk;exact hk.trans e.symm))
 first
 | done
 | have qq3v:=qq3v
 | have qq3u:=qq3u
   have hX:(#[.slice (some ⟨gb,0,none⟩) (L0.length+1) c1,.int .i64 ((SZ:Int)+(f.load.length:Int)),.bool y.first,.bool y.last,.bool y.beg,.bool y.fin,.int .u8 (y.ty:Int),.int .u8 (y.track:Int),.int .u16 (y.chan:Int),.string (str y.load),.bool (!true)]:Array Value)=jM ⟨some ⟨gb,0,none⟩,L0.length+1,c1⟩ (zI (g.op f.chan f.track++ [f])) y (kA (g.op f.chan f.track++ [f])):=by
    unfold jM Hd.v;rw[MG.out,Ii.out];simp
   rw[hX]at Eu
 | have hX:(#[.slice (some ⟨gb,0,none⟩) (L0.length+1) c1,.int .i64 ((SZ:Int)+(f.load.length:Int)),.bool y.first,.bool y.last,.bool y.beg,.bool y.fin,.int .u8 (y.ty:Int),.int .u8 (y.track:Int),.int .u16 (y.chan:Int),.string (str y.load),.bool (!false)]:Array Value)=jM ⟨some ⟨gb,0,none⟩,L0.length+1,c1⟩ (zI (g.op f.chan f.track++ [f])) y (kA (g.op f.chan f.track++ [f])):=by
    unfold jM Hd.v;rw[MG.out,Ii.out];simp
   rw[hX]at Eu
 go_wp2_with(with_reducible refine h_B ?_)
 first
 | have qq3v:=qq3v
   exact zv rfl nu rfl rfl rfl underlying42 rfl Wj rfl (zaK hm hF hne pu hlt HF.out sK G0.out Lf.out (by rw[dl.out];rfl) (fun e=>(Dc.out e).1) (fun e=>(u6.out e).1) r8 eA Eu (by rw[Ox.out];simp) oz rI (fun _ _ _=>.inr trivial))
 | exact zv rfl nu rfl rfl rfl underlying42 rfl Wj rfl (KF hm hF hne pu hlt HF.out sK G0.out Lf.out (by rw[dl.out];rfl) (fun e=>(Dc.out e).1) (fun e=>(u6.out e).1) r8 eA Eu Tj.out oz rI)):p:=h
theorem Zp_(h:p:=by
 have de:=ha.n;have nE:=fun W=>run_makeMap (P:=prog) 186 W
 obtain⟨ab,rb,v0,dV,eC,bo,bh,bU,Hy⟩:=qQ w #[.bool a.is,.int .u64 (a.n:Int),.string (str a.s),.int .u32 (a.x.fmt:Int),.string (str a.x.glob),.string (str a.x.bran),.slice h.A a.q.length h.c,.int .u8 (a.v.kind:Int),.int .u64 (a.v.n:Int),.string (str a.v.s),.slice h.h.A1 a.v.keys.length h.h.c1,.slice h.h.A2 a.v.list.length h.h.c2] #[.bool true,.int .u64 0,.string ⟨#[]⟩,.int .u32 0,.string ⟨#[]⟩,.string ⟨#[]⟩,.slice none 0 0,.int .u8 0,.int .u64 0,.string ⟨#[]⟩,.slice none 0 0,.slice none 0 0] 80;have Bo:w.heap.size≤ab:=by omega
 have tL:ab<rb:=by omega
 have Bb:∀g,blk A=some g→g<ab:=fun g hg=>by have:=(Hl.blk_lt hg).2;omega
 have eW:∀g,blk A=some g→base≤g:=fun g hg=>(Hl.blk_lt hg).1
 have H4:=zh Hl Hy;have HU:Below w.heap.size w v0:=Hy;have cg:=bU.lt;have fe:=cg;have cW:l.length=n:=RdB.length Hl.rd;unfold agV;have HA:=Lib.hid ha;clear ha;go_enter func71,ntmps71;go_upto_region 2 with fail;rw[←eC,←dV,←bo];clear dV eC bo Hl Hy;have Hp:=World.ownsMap_made v0 prog 5 (plainElem (H:=Unit) prog 3);have bh:=bh.alloc (.map #[] 0);have bU:=bU.alloc (.map #[] 0);have H4:=H4.alloc (.map #[] 0);have HU:=HU.alloc HU.size (.map #[] 0);go_wp2_with(with_reducible refine h_M ?_);obtain⟨mb,cw⟩:∃m,m=v0.heap.size:=⟨_,rfl⟩
 rw[←cw]at Hp cg ⊢;clear cw nE;generalize(v0.alloc (.map #[] 0))=v1 at*;refine zc (zm (H:=Unit) _ rfl _ _ _ 186 rfl 5 3 zC underlying186 (plainElem (H:=Unit) prog 3) _ _ _ rfl Hp WX _ _ (.int .u8 110) rfl rfl (Maps.keyOf_int_mk underlying5 WJ) (.lit (.int .i64 1)) [] (plainElem_int underlying3 WJ) ?_);intro v2 Hr bM;have bh:=bh.grown bM (sne Wq);have bU:=bU.grown bM (sne Wq);have H4:=zk H4 bM ux;have HU:=HU.grown bM HU.size Wx;clear Hp bM;have Hp:=Hr;clear Hr;go_wp2_with(with_reducible refine h_M ?_);refine zc (zm (H:=Unit) _ rfl _ _ _ 186 rfl 5 3 zC underlying186 (plainElem (H:=Unit) prog 3) _ _ _ rfl Hp WX _ _ (.int .u8 119) rfl rfl (Maps.keyOf_int_mk underlying5 WJ) (.lit (.int .i64 2)) [] (plainElem_int underlying3 WJ) ?_);intro v3 Hr bM;have bh:=bh.grown bM (sne Wq);have bU:=bU.grown bM (sne Wq);have H4:=zk H4 bM ux;have HU:=HU.grown bM HU.size Wx;clear Hp bM;have Hp:=Hr;clear Hr;go_wp2_with(with_reducible refine h_M ?_);refine zc (zm (H:=Unit) _ rfl _ _ _ 186 rfl 5 3 zC underlying186 (plainElem (H:=Unit) prog 3) _ _ _ rfl Hp WX _ _ (.int .u8 100) rfl rfl (Maps.keyOf_int_mk underlying5 WJ) (.lit (.int .i64 4)) [] (plainElem_int underlying3 WJ) ?_);intro v4 Hr bM;have bh:=bh.grown bM (sne Wq);have bU:=bU.grown bM (sne Wq);have H4:=zk H4 bM ux;have HU:=HU.grown bM HU.size Wx;clear Hp bM
 first
 | have qq4c:=qq4c
   obtain⟨cc,bu,eY,_⟩:=Hr.lookup_int (t:=186) zC underlying186 underlying3 (zeroValue3 _) (key:=.int .u8 100) (kl:=.int .u8 100) (Maps.keyOf_int_mk underlying5 WJ)
   have dk:DataW.lit (H:=Unit) (.int .i64 4)= .lit (.int .i64 cc):=Eq.trans Wj eY
 | have qq4b:=qq4b
   obtain⟨cc,bu,eY,_⟩:=Hr.lookup_int (t:=186) zC underlying186 underlying3 (zeroValue3 _) (key:=.int .u8 119) (kl:=.int .u8 119) (Maps.keyOf_int_mk underlying5 WJ)
   have dk:DataW.lit (H:=Unit) (.int .i64 2)= .lit (.int .i64 cc):=Eq.trans Wj eY
 | obtain⟨cc,bu,eY,_⟩:=Hr.lookup_int (t:=186) zC underlying186 underlying3 (zeroValue3 _) (key:=.int .u8 110) (kl:=.int .u8 110) (Maps.keyOf_int_mk underlying5 WJ)
   have dk:DataW.lit (H:=Unit) (.int .i64 1)= .lit (.int .i64 cc):=Eq.trans Wj eY
 injection dk with dk
 injection dk with _ dk
 subst dk;clear eY;have x0:=bh.c0;have x1:=bh.c1;have x2:=bh.c2;have x3:=bh.c3;have x4:=bh.c4;have x5:=bh.c5;have x6:=bh.c6;have x7:=bh.c7;have x8:=bh.c8;have x9:=bh.c9;have xA:=bh.c10;have xB:=bh.c11;go_wp2_with(with_reducible refine h_M ?_);go_ret2
 exact⟨none,_,0,rfl,HU.mono Hf,⟨HU.size,fun g hg _=>HU.block g hg⟩,fun e=>by cases e⟩):p:=h
theorem Z48_(h:p:=by
 go_upto_region 1 with fail;rw[←Hg,←Hi];clear Hg Hi;go_wp2_with(with_reducible refine h_A ?_);refine hd.mono ?_;rintro e w2 ⟨rfl,Hc⟩;have hc:=HC.out w2 Hc;have Hk:=hX.below Hc;clear c0 c1 c2 c3 c4 hX;have c0:=Hk.c0;have c1:=Hk.c1;have c2:=Hk.c2;have c3:=Hk.c3;have c4:=Hk.c4;clear hd HC;go_wp2_with(with_reducible refine h_A ?_);refine hc.mono ?_;rintro e w3 ⟨rfl,Hh⟩;have BD:=Hc.trans (Hh.mono Hc.size);have hm:=HM.out w3 BD;have bS:=Hk.below Hh;clear hc Hh c0 c1 c2 c3 c4 HM;have c0:=bS.c0;have c1:=bS.c1;have c2:=bS.c2;have c3:=bS.c3;have c4:=bS.c4;go_wp2_with(with_reducible refine h_A ?_);refine hm.mono ?_;rintro e w4 ⟨rfl,Hn⟩;go_wp2_with(with_reducible refine h_A ?_);go_ret
 exact⟨rfl,Ha.trans ((BD.trans (Hn.mono BD.size)).mono Ha.size)⟩):p:=h
theorem Z59_(h:p:=by
 rintro e w2 ⟨rfl,Hc⟩;go_wp2_with(with_reducible refine h_A ?_);go_ret
 exact⟨rfl,Ha.trans (Hc.mono Ha.size)⟩):p:=h
theorem Zq_(h:p:=by
 obtain⟨xb,w1,Hg,Hi,hX,Ha⟩:=zg w #[.int .u8 (v.kind:Int),.int .u64 (v.n:Int),.string (str v.s),.slice h.A1 v.keys.length h.c1,.slice h.A2 v.list.length h.c2] 78;have dE:=hv.up Ha
 first
 | have qq4d:=qq4d
   have hd:=Vr v h 6 w1 dE Wq trivial;(have hc:=fun W (hW:Below w1.heap.size w1 W)=>Vq v h 200 W (dE.up hW) Wq Wq);have hm:=fun W (hW:Below w1.heap.size w1 W)=>zbv v h W (dE.up hW)
   unfold DeepR' at hd
 | have hd:=za3 v h 6 w1 dE Wq
   (have hc:=fun W (hW:Below w1.heap.size w1 W)=>K3 v h 200 W (dE.up hW) Wq Wq);(have hm:=fun W (hW:Below w1.heap.size w1 W)=>zcl v h W (dE.up hW) ((hT.on Ha).on hW));unfold Qo at hd
 unfold CntR at hc;unfold MayR at hm;unfold vlV at hd hc hm ⊢;obtain⟨r,hr⟩:∃r,r=errV v:=⟨_,rfl⟩
 rw[←hr];unfold errV at hr;generalize xK 6 v=d at*;generalize cntV v 200=q at*;generalize mayV zJ v=y at*;have c0:=hX.c0;have c1:=hX.c1;have c2:=hX.c2;have c3:=hX.c3;have c4:=hX.c4;have HC:=Lib.hid hc;have HM:=Lib.hid hm;first|(have qq4d:=qq4d;clear hv dE hc hm)|(clear hv hT dE hc hm)
 rw[show((6:Nat):Int)=6 from rfl]at hd
 cases d
 ·by_cases hq:q<0
  ·(obtain rfl:r=3:=by rw[hr];simp[hq]);clear hr HM;(first|(have qq4d:=qq4d;go_enter func117,ntmps117)|(go_enter func123,ntmps123));go_upto_region 1 with fail;rw[←Hg,←Hi];clear Hg Hi;go_wp2_with(with_reducible refine h_A ?_);refine hd.mono ?_;rintro e w2 ⟨rfl,Hc⟩;have hc:=HC.out w2 Hc;have Hk:=hX.below Hc;clear c0 c1 c2 c3 c4 hX;have c0:=Hk.c0;have c1:=Hk.c1;have c2:=Hk.c2;have c3:=Hk.c3;have c4:=Hk.c4;clear hd HC;go_wp2_with(with_reducible refine h_A ?_);refine hc.mono ?_;rintro e w3 ⟨rfl,Hh⟩;go_wp2_with(with_reducible refine h_A ?_);go_ret;exact⟨rfl,Ha.trans ((Hc.mono Ha.size).trans (Hh.mono (Nat.le_trans Ha.size Hc.size)))⟩
  cases y
  ·(obtain rfl:r=50:=by rw[hr];simp[hq]);clear hr;(first|(have qq4d:=qq4d;go_enter func117,ntmps117)|(go_enter func123,ntmps123));exact Z48_
  obtain rfl:r=0:=by rw[hr];simp[hq]
  clear hr;first|(have qq4d:=qq4d;go_enter func117,ntmps117)|(go_enter func123,ntmps123)
  exact Z48_
 obtain rfl:r=51:=by rw[hr];simp
 clear hr HC HM;first|(have qq4d:=qq4d;go_enter func117,ntmps117)|(go_enter func123,ntmps123)
 go_upto_region 1 with fail;rw[←Hg,←Hi];clear Hg Hi;go_wp2_with(with_reducible refine h_A ?_);refine hd.mono ?_
 exact Z59_):p:=h
theorem Zr_(h:p:=by
 by_cases hl:m.args.length=kd.length
 ·have hs:m.sync=true∧m.cls≤2:=by
   simp only[hl,decide_true,Bool.and_true,Bool.true_and,Bool.not_eq_true',Bool.not_eq_true,Bool.not_eq_false']at hf;simpa using hf
  first
  | have qq4i:=qq4i
    obtain⟨hs,bC⟩:=hs;have hd:decide (m.cls≤2)=true:=by simpa using bC
    simp only[hd]at fh
  | obtain⟨hs,dK⟩:=hs
  have g1:((m.args.length:Int)!=((str kd).size:Int))=false:=by rw[dD,hl];simp
  have g2:((m.args.length:Int)!=(kd.length:Int))=false:=by rw[hl];simp
  first
  | have qq4i:=qq4i
    clear hf hl bC hd
  | have g3:(m.cls:Int)≤2:=by omega
    clear hf hl dK
  generalize m.sync=sy at*;subst hs;first|(have qq4i:=qq4i;go_enter func50,ntmps50)|(go_enter func43,ntmps43)
  go_upto_region 1 with fail;rw[←Hg,←Hi];clear Hg Hi;go_wp2_with(with_reducible refine h_A ?_);first|(have qq4i:=qq4i;refine f8.mono ?_)|(refine fm.mono ?_)
  rintro e w2 ⟨rfl,Hc⟩;have Hk:=hX.below Hc
  first
  | have qq4i:=qq4i
    clear c0 c1 c2 c3;have c0:=Hk.c0;have c1:=Hk.c1;have c2:=Hk.c2;have c3:=Hk.c3;go_wp2_with(with_reducible refine h_A ?_);refine(fh _).mono ?_
    (rintro e w3 ⟨rfl,rfl⟩)
  | have H3:=Ha.trans (Hc.mono Ha.size)
    have hz:=Box.new w2 #[.int .u8 0,.int .u8 0,.string ⟨#[]⟩,.string ⟨#[]⟩] 127;have ug:=Hk.alloc (.cells #[.int .u8 0,.int .u8 0,.string ⟨#[]⟩,.string ⟨#[]⟩] 127);have cZ:=H3.alloc H3.size (.cells #[.int .u8 0,.int .u8 0,.string ⟨#[]⟩,.string ⟨#[]⟩] 127);have DX:=Hk.lt;have C6:=H3.size;clear fm x0 x1 x2 x3 hX Ha Hc;go_wp2_with(with_reducible refine h_B ?_);(obtain⟨rb,cX⟩:∃g,g=w2.heap.size:=⟨_,rfl⟩);rw[←cX]at hz DX C6 ⊢;clear cX;generalize(w2.alloc (.cells #[.int .u8 0,.int .u8 0,.string ⟨#[]⟩,.string ⟨#[]⟩] 127))=w3 at*;refine zc (zn (v:=.agg #[.int .u8 (rw_c:Int),.int .u8 (rw_k:Int),.string (str rw_n),.string (str kd)]) (vs:=[.int .u8 (rw_c:Int),.int .u8 (rw_k:Int),.string (str rw_n),.string (str kd)]) rfl rfl rfl rfl hz rfl Wj Wz vV #[.int .u8 (rw_c:Int),.int .u8 (rw_k:Int),.string (str rw_n),.string (str kd)] Wz ?_);intro w5 hR H9 gI;have B3:=ug.grown H9 (sne Wq);have bw:=cZ.grown H9 cZ.size Wx;clear hz ug cZ H3 Hk H9 gI;have x0:=B3.c0;have x1:=B3.c1;have x2:=B3.c2;have x3:=B3.c3;have r3:=hR.c3
  go_wp2_with(with_reducible refine h_A ?_);go_ret2;first|(have qq4i:=qq4i;exact⟨none,0,rfl,Own.none_ _ _ _ _,Ha.trans (Hc.mono Ha.size)⟩)|(exact⟨none,0,rfl,Own.none_ _ _ _ _,bw⟩)
 have g1:((m.args.length:Int)!=((str kd).size:Int))=true:=by rw[dD];simp;omega
 have g2:((m.args.length:Int)!=(kd.length:Int))=true:=by simp;omega
 first
 | have qq4i:=qq4i
   clear hf hl fh
   go_enter func50,ntmps50
 | clear hf hl
   go_enter func43,ntmps43
 go_upto_region 1 with fail;rw[←Hg,←Hi];clear Hg Hi;go_wp2_with(with_reducible refine h_A ?_);first|(have qq4i:=qq4i;refine f8.mono ?_)|(refine fm.mono ?_)
 rintro e w2 ⟨rfl,Hc⟩;have Hk:=hX.below Hc
 first
 | have qq4i:=qq4i
   clear c0 c1 c2 c3;have c0:=Hk.c0;have c1:=Hk.c1;have c2:=Hk.c2
   have c3:=Hk.c3
 | have H3:=Ha.trans (Hc.mono Ha.size)
   have hz:=Box.new w2 #[.int .u8 0,.int .u8 0,.string ⟨#[]⟩,.string ⟨#[]⟩] 127;have ug:=Hk.alloc (.cells #[.int .u8 0,.int .u8 0,.string ⟨#[]⟩,.string ⟨#[]⟩] 127);have cZ:=H3.alloc H3.size (.cells #[.int .u8 0,.int .u8 0,.string ⟨#[]⟩,.string ⟨#[]⟩] 127);have DX:=Hk.lt;have C6:=H3.size;clear fm x0 x1 x2 x3 hX Ha Hc;go_wp2_with(with_reducible refine h_B ?_);(obtain⟨rb,cX⟩:∃g,g=w2.heap.size:=⟨_,rfl⟩);rw[←cX]at hz DX C6 ⊢;clear cX;generalize(w2.alloc (.cells #[.int .u8 0,.int .u8 0,.string ⟨#[]⟩,.string ⟨#[]⟩] 127))=w3 at*;refine zc (zn (v:=.agg #[.int .u8 (rw_c:Int),.int .u8 (rw_k:Int),.string (str rw_n),.string (str kd)]) (vs:=[.int .u8 (rw_c:Int),.int .u8 (rw_k:Int),.string (str rw_n),.string (str kd)]) rfl rfl rfl rfl hz rfl Wj Wz vV #[.int .u8 (rw_c:Int),.int .u8 (rw_k:Int),.string (str rw_n),.string (str kd)] Wz ?_);intro w5 hR H9 gI;have B3:=ug.grown H9 (sne Wq);have bw:=cZ.grown H9 cZ.size Wx;clear hz ug cZ H3 Hk H9 gI;have x0:=B3.c0;have x1:=B3.c1;have x2:=B3.c2;have x3:=B3.c3;have r3:=hR.c3
 go_wp2_with(with_reducible refine h_A ?_);go_ret2
 first|(have qq4i:=qq4i;exact⟨none,0,rfl,Own.none_ _ _ _ _,Ha.trans (Hc.mono Ha.size)⟩)|(exact⟨none,0,rfl,Own.none_ _ _ _ _,bw⟩)):p:=h
theorem Zs_(h:p:=by
 first
 | have qq4s:=qq4s
   clear z3
 | have qq4r:=qq4r
   go_simp;refine bB _ _ hP ?_;clear bB K z3;try simp only[g_S]
   refine zj 10 rfl Wj rfl (fun K bB=>?_)
 | go_simp
   refine bB _ _ hP ?_;clear bB K z3;(try simp only[g_S]);refine zj 9 rfl Wj rfl (fun K bB=>?_);go_simp;refine Cq.mono ?_;rintro e wt ⟨rfl,Bs,Hm⟩;(try clear z3);replace hS:=hS.box Hm Wq;replace hX:=hX.grown Hm (sne Wq);replace hP:=hP.grown Hm (sne Wq);replace bm:=bm.grown hBa Hm UQ;clear hR Cq;have hR:=Bs;clear Bs Hm;refine bB _ _ hP ?_;clear bB K;(try simp only[g_S]);refine zj 10 rfl Wj rfl (fun K bB=>?_)
 go_simp;have hM:=Box.new wt #[.string (str ks)] 9;have cu:=(Below.refl wt.heap.size wt).alloc (Nat.le_refl _) (.cells #[.string (str ks)] 9);refine bB _ _ (hP.below cu) ?_;clear bB K;try simp only[g_S]
 obtain⟨mb,cw⟩:∃g,g=wt.heap.size:=⟨_,rfl⟩
 rw[←cw]at hM ⊢;clear cw;replace hS:=hS.below cu;replace hX:=hX.below cu;replace hR:=hR.below cu;replace hP:=hP.below cu;replace bm:=bm.below hBa cu;generalize(wt.alloc (.cells #[.string (str ks)] 9))=wm at*
 first
 | have qq4s:=qq4s
   have z3:=hX.c3;refine zj 4 rfl Wj rfl (fun K bB=>?_);go_simp;refine bB _ _ hP ?_;clear bB K z3
   try simp only[g_S]
 | skip
 have fJ:Own _ (xb+1) 9 1 AK KS.length cK (KS.map txV):=hS.kown;refine zj 11 rfl Wj rfl (fun K bB=>?_);refine jL (ops:=#[]) slTx underlying22 rfl rfl rfl fJ (vf (n:=1) (sz:=1) hM rfl WJ) nQ Wq Hj mQ ?_;intro A4 c4 w6 bR bz ey;have iK:KS.map txV++(#[Value.string (str ks)]:Array Value).toList=(KS++ [ks]).map txV:=by rw[List.map_append];rfl
 rw[iK]at bR;clear iK;have BX:blk A4=blk AK∨∀g,blk A4=some g→_≤g:=ey.imp id uJ
 have bY:=hS.pushK bR bz BX;have Bx:∀g',blk AK=some g'→xb+1≤g'∧a.heap.size≤g':=fun g' Ho=>by have:=(hS.kown.blk_lt Ho).1;omega
 have bA:=hX.grown bz wj;have Be:=hP.grown bz wj;have bE:=hR.kept bz uz;have bv:=bm.grown hBa bz wQ;refine bB _ _ Be ?_;clear bB K hS hX hP hR bm hM fJ bz ey BX bR Bx;try simp only[g_S]
 refine rg_t 12 Be ?_;simp only[g_S];refine rg_t 13 Be ?_;simp only[g_S];refine zj 14 rfl Wj rfl (fun K bB=>?_);refine zK (g:=xb) (j:=3) (v:=.slice A4 (KS.length+1) c4) (vs:=[.slice A4 (KS.length+1) c4]) rfl rfl rfl bA rfl Wj Wz wX #[.int .u8 168,.int .u64 0,.string ⟨#[]⟩,.slice A4 (KS.length+1) c4,.slice A i c] Wz ?_;intro wk Bt H7 _;have hS:=bY.box H7 Wq;have hP:=Be.grown H7 (sne Wq);have hR:=bE.kept H7 wJ;have bm:=bv.grown hBa H7 (fun g' Ho=>by injection Ho with Ho;exact⟨by omega,.inr (.inr Wq)⟩);refine bB _ _ hP ?_;clear bB K bY Be bE bv bA H7;try simp only[g_S]
 refine zz Wj ?_;obtain⟨co,eT⟩:∃K,K=KS++ [ks]:=⟨_,rfl⟩
 have io:co.length=KS.length+1:=by rw[eT];simp
 have Bk:Hid (∀k∈co,k.length≤255):=Lib.hid (fun k hk=>by
  rw[eT]at hk;rcases List.mem_append.1 hk with h|h
  ·exact dd.out k h
  ·rw[List.mem_singleton.1 h];exact pj)
 have ou:=Lib.hid eT;rw[←eT]at hS;have mM:co.length≤i+1:=by omega
 have hX:Box wk xb 78 #[.int .u8 168,.int .u64 0,.string ⟨#[]⟩,.slice A4 co.length c4,.slice A i c]:=by rw[io];exact Bt
 go_wp2_with fail;go_meet
 exact⟨rfl,co,A4,c4,Lib.hid (by simpa using ou.out),mM,Bk,hS,hX,hR,hP,bm⟩):p:=h
theorem Zt_(h:p:=by
 have hl:=hr.length;first|(have qq51:=qq51;go_enter func116,ntmps116)|(go_enter func122,ntmps122)
 go_wp2_with(with_reducible refine h_A ?_);first|(have qq51:=qq51;go_loopw [3] (fun s wr=>∃(k:Nat),k≤n∧s= .int .i64 k∧zV (l.take k)=true∧Below w.heap.size w wr) (fun s _=>n-(intOf s).toNat))|(go_loopw [7] (fun s wr=>∃(k:Nat),k≤n∧s= .int .i64 k∧zV (l.take k)=true∧Below w.heap.size w wr) (fun s _=>n-(intOf s).toNat))
 case atStart=>exact⟨0,by omega,rfl,by simp[zV],Below.refl _ _⟩
 obtain⟨k,hk,rfl,iP,bP⟩:=hrel;by_cases hlt:k<n
 ·have B1:=hr.below (bP.mono hB);obtain⟨b,off,rfl,dx,bI,gV,ca⟩:=RdS.at_k B1 hlt;have lf:=hb l[k] (List.getElem_mem bI);have HN:=Lib.hid (Yc bI);have ID:=RdS.at_p B1 hk;have mc:=(Xo hb (k-1) Wq).2;generalize(l.getD (k-1) (0,0)).2=t0 at*;generalize l[k].1=f at*;generalize l[k].2=t at*;first|done|(have qq51:=qq51)|(have Hc:Below w.heap.size w ((wr.alloc (.cells #[.int .u32 (f:Int),.int .u32 (t:Int)] 208))):=bP.alloc bP.size _)
  by_cases h1:t<f
  ·(have hd:(t:Int)<(f:Int):=by omega);(first|(have qq51:=qq51;have BO:=jp bI iP nz)|(skip));go_wp2_with(with_reducible refine h_A ?_);(first|done|(have qq51:=qq51)|(skip));go_quiet(fail);go_wp2_with(with_reducible refine h_A ?_);go_ret
   first
   | have qq51:=qq51
     rw[BO]
     exact⟨rfl,za bP _⟩
   | have e:=jp bI iP nz
     rw[e];exact⟨rfl,za Hc _⟩
  have hd:decide ((t:Int)<(f:Int))=false:=by simp;omega
  rcases Nat.eq_zero_or_pos k with dA|h0
  ·(have hd0:decide (0<k)=false:=by simp;omega);have hy:=jG bI iP nz;clear dA
   first
   | have qq51:=qq51
     go_wp2_with(with_reducible refine h_A ?_)
     go_quiet(fail)
   | skip
   go_wp2_with(with_reducible refine h_A ?_);(first|done|(have qq51:=qq51)|(skip));go_quiet(fail);go_wp2_with(with_reducible refine h_A ?_);first|(have qq51:=qq51;exact⟨⟨k+1,by omega,by go_num,hy,by first|exact za bP _|exact za (za bP _) _⟩,by simp[intOf];omega⟩)|(exact⟨⟨k+1,by omega,by go_num,hy,za Hc _⟩,by simp[intOf];omega⟩)
  have hd0:(0:Int)<(k:Int):=by omega
  obtain⟨b',off',e',_,dK⟩:=ID h0;obtain⟨rfl,rfl⟩:b=b'∧off=off':=by simpa using e'
  clear e' ID
  first
  | done
  | have qq51:=qq51
  | have ei:b<wr.heap.size:=World.block_lt_of_cell? wr _ gV
    have i4:=(World.cell?_alloc_past (w:=wr) (.cells #[.int .u32 (f:Int),.int .u32 (t:Int)] 208) b (off+(k-1)*2+1) ei).trans dK
  have ft:IntKind.i64.wrap ((k:Int)-1)=((k-1:Nat):Int):=by rw[IntWalk.i64_in _ ⟨by omega,by omega⟩];omega
  have si:((k-1:Nat):Int)<(n:Int):=by omega
  first|(have qq51:=qq51;by_cases h2:f<t0+2)|(by_cases h2:f≤t0)
  ·first
   | have qq51:=qq51
     (have fA:(f:Int)<(t0:Int)+2:=by omega);have BO:=jp bI iP nz;go_wp2_with(with_reducible refine h_A ?_)
     go_quiet(fail)
   | have fA:(f:Int)≤(t0:Int):=by omega
   go_wp2_with(with_reducible refine h_A ?_);(first|done|(have qq51:=qq51)|(skip));go_quiet(fail);go_wp2_with(with_reducible refine h_A ?_);go_ret
   first
   | have qq51:=qq51
     rw[BO]
     exact⟨rfl,by first|exact za bP _|exact za (za bP _) _⟩
   | have e:=jp bI iP nz
     rw[e];exact⟨rfl,za Hc _⟩
  first
  | have qq51:=qq51
    (have fA:decide ((f:Int)<(t0:Int)+2)=false:=by simp;omega);have hy:=jG bI iP nz;go_wp2_with(with_reducible refine h_A ?_);go_quiet(fail);go_wp2_with(with_reducible refine h_A ?_);go_quiet(fail);go_wp2_with(with_reducible refine h_A ?_)
    exact⟨⟨k+1,by omega,by go_num,hy,by first|exact za bP _|exact za (za bP _) _⟩,by simp[intOf];omega⟩
  | have fA:decide ((f:Int)≤(t0:Int))=false:=by simp;omega
    by_cases h3:t0+1=f
    ·(have ir:(((t0:Int)+1)==(f:Int))=true:=by simp;omega);have BO:=jp bI iP nz;clear h3;go_wp2_with(with_reducible refine h_A ?_)
     skip
     go_quiet(fail);go_wp2_with(with_reducible refine h_A ?_);go_ret;rw[BO];exact⟨rfl,za Hc _⟩
    ·(have ir:(((t0:Int)+1)==(f:Int))=false:=by simp;omega);have hy:=jG bI iP nz;go_wp2_with(with_reducible refine h_A ?_)
     skip
     go_quiet(fail);go_wp2_with(with_reducible refine h_A ?_);exact⟨⟨k+1,by omega,by go_num,hy,za Hc _⟩,by simp[intOf];omega⟩
 obtain rfl:k=n:=by omega
 go_wp2_with(with_reducible refine h_A ?_);go_ret;rw[←hl,List.take_length]at iP;rw[iP]
 exact⟨rfl,bP⟩):p:=h
theorem Z3s_(h:p:=by
 go_simp
 first
 | have qqh4:=qqh4
   refine oc.mono ?_
   (rintro e w6 ⟨rfl,rfl⟩)
 | skip
 refine hK _ _ trivial ?_;clear hK K;first|done|(have qqh4:=qqh4)|(clear y0)
 try simp only[g_S]
 first
 | have qqh4:=qqh4
   refine zj 4 rfl Wj rfl (fun K hK=>?_)
 | refine rg_t 5 trivial ?_
   simp only[g_S];refine zj 7 rfl Wj rfl (fun K hK=>?_)
 go_simp
 first
 | done
 | have qqh4:=qqh4
 | refine oc.mono ?_
   (rintro e w6 ⟨rfl,rfl⟩)
 refine hK _ _ trivial ?_;clear hK K;first|(have qqh4:=qqh4;clear y0)|(skip)
 try simp only[g_S]
 first
 | have qqh4:=qqh4
   refine rg_t 5 trivial ?_
   simp only[g_S]
 | skip
 refine rg_t 8 trivial ?_;simp only[g_S];refine zj 9 rfl Wj rfl (fun K hK=>?_);go_simp;refine ic.mono ?_;rintro e w7 ⟨rfl,t9,H7⟩;have ud:=lw.grown H7 (sne Wq);have iI:=Br.grown bL H7 Uj;refine hK _ _ trivial ?_;clear hK K;refine zz Wj ?_;go_wp2_with(with_reducible refine h_A ?_);go_end0;rw[oT.out,og.out]
 exact⟨rfl,ud,by simpa[BC]using t9,iI⟩):p:=h
theorem Zu_(h:p:=by
 first
 | done
 | have qq5c:=qq5c
   go_wp2_with(with_reducible refine h_B ?_);refine im.mono ?_;rintro e w4 ⟨rfl,rfl⟩
   clear im
 | have qq5b:=qq5b
 | go_wp2_with(with_reducible refine h_B ?_)
   refine im.mono ?_;rintro e w4 ⟨rfl,rfl⟩;clear im
 go_wp2_with(with_reducible refine h_B ?_);first|(have qq5c:=qq5c;refine zc (zn (v:=.bool false) (vs:=[.bool false]) rfl rfl rfl rfl bX rfl Wj Wz wX #[.slice A n c,.bool false] Wz ?_))|(refine zc (zn (v:=.bool true) (vs:=[.bool true]) rfl rfl rfl rfl bX rfl Wj Wz wX #[.slice A n c,.bool true] Wz ?_))
 intro w5 cT H9 _;have lw:=ml.grown H9 (sne Wq);have dv:=cj.grown H9 Wq Wx;have gL:=rB.kept H9 (fun g hg bH=>by injection hg with hg;have:=bH.1;omega);have Br:=hK.grown bL H9 Uj;clear bX ml cj rB hK H9 c1;go_upto_region 3 with fail;refine zt (fun _:World=>True) Wj ?_;first|(have qq5c:=qq5c;replace cT:Box w5.drew rb 194 #[.slice A n c,.bool false]:=cT)|(replace cT:Box w5.drew rb 194 #[.slice A n c,.bool true]:=cT)
 replace lw:Box w5.drew ab 80 cells':=lw;replace dv:RdB w5.drew B A n c l:=dv.drew;replace gL:=gL.drew;replace Br:=Br.drew;have pR:IntKind.i64.wrap ((n:Int)-(l2.length:Int))=((n-l2.length:Nat):Int):=by rw[IntWalk.i64_in _ ⟨by omega,by omega⟩];omega
 generalize w5.drew=wd at*;refine rg_t 0 trivial ?_;simp only[List.getElem_toArray,List.getElem_cons_zero,Act.put,List.setIfInBounds_toArray,List.set_cons_zero,List.set_cons_succ];refine rg_t 1 trivial ?_;simp only[g_S];refine rg_t 2 trivial ?_;simp only[g_S];refine rg_t 3 trivial ?_;simp only[g_S];refine rg_t 6 trivial ?_;simp only[g_S];have y0:=cT.c0;first|(have qq5c:=qq5c;have md:MRd wd B rb l false:=⟨A,n,c,cT,dv,hn⟩)|(have md:MRd wd B rb l true:=⟨A,n,c,cT,dv,hn⟩)
 have oc:=yN gL;first|(have qq5c:=qq5c;have ic:=Je md hB (n-l2.length) Wq)|(have ic:=ZO md hB ((n-l2.length:Nat):Int) 0 (.inl rfl))
 refine xP 4 7 rfl rfl Wj rfl rfl (fun K hK=>?_) (fun K hK=>?_)
 ·exact Z3s_
 have qqh4:=()
 exact Z3s_):p:=h
theorem Zv_(h:p:=by
 unfold mtV;obtain⟨xb,w0,bD,bo,hX,Hy⟩:=zq w #[.int .u8 (m.cls:Int),.int .u8 (m.code:Int),.bool m.sync,.slice A m.args.length c] 106
 first
 | have qq5s:=qq5s
   have fy:=X7 12 [] Zq zdz WJ none 0 0 (h.below Hy) (he.on Hy) (Rd.nil _ _ _ _ WX _) Bw hs;rw[show(((12:Nat)):Int)=12 from rfl]at fy
   go_enter func86,ntmps86
 | have dC:∀W,Calls prog 37 #[.int .u64 255,.string ⟨#[]⟩] W fun e w'=>e= .returned (.agg #[.bool true,.int .u64 255,.string ⟨#[]⟩,.int .u32 0,.string ⟨#[]⟩,.string ⟨#[]⟩,.slice none 0 0,.int .u8 0,.int .u64 0,.string ⟨#[]⟩,.slice none 0 0,.slice none 0 0])∧Below W.heap.size W w':=fun W=>kX 255 [] W
   (have db:∀W,Calls prog 37 #[.int .u64 4096,.string ⟨#[]⟩] W fun e w'=>e= .returned (.agg #[.bool true,.int .u64 4096,.string ⟨#[]⟩,.int .u32 0,.string ⟨#[]⟩,.string ⟨#[]⟩,.slice none 0 0,.int .u8 0,.int .u64 0,.string ⟨#[]⟩,.slice none 0 0,.slice none 0 0])∧Below W.heap.size W w':=fun W=>kX 4096 [] W);go_enter func83,ntmps83
 go_upto_region 1 with fail;rw[←bD,←bo];clear bD bo hX
 first
 | done
 | have qq5s:=qq5s
 | go_wp2_with(with_reducible refine h_A ?_)
   (with_reducible refine(dC _).mono ?_)
   rintro e w1 ⟨rfl,Ha⟩;go_wp2_with(with_reducible refine h_A ?_)
   (with_reducible refine(db _).mono ?_)
   rintro e w2 ⟨rfl,Hc⟩;have Hh:=Hy.trans ((Ha.trans (Hc.mono Ha.size)).mono Hy.size);clear dC db;obtain⟨gb,w3,bD,bo,hG,BD⟩:=zq w2 #[.bool true,.int .u64 255,.string ⟨#[]⟩,.int .u32 0,.string ⟨#[]⟩,.string ⟨#[]⟩,.slice none 0 0,.int .u8 0,.int .u64 0,.string ⟨#[]⟩,.slice none 0 0,.slice none 0 0,.bool true,.int .u64 4096,.string ⟨#[]⟩,.int .u32 0,.string ⟨#[]⟩,.string ⟨#[]⟩,.slice none 0 0,.int .u8 0,.int .u64 0,.string ⟨#[]⟩,.slice none 0 0,.slice none 0 0] 80;have bZ:=yn (w:=w2) w2.heap.size #[.bool true,.int .u64 255,.string ⟨#[]⟩,.int .u32 0,.string ⟨#[]⟩,.string ⟨#[]⟩,.slice none 0 0,.int .u8 0,.int .u64 0,.string ⟨#[]⟩,.slice none 0 0,.slice none 0 0,.bool true,.int .u64 4096,.string ⟨#[]⟩,.int .u32 0,.string ⟨#[]⟩,.string ⟨#[]⟩,.slice none 0 0,.int .u8 0,.int .u64 0,.string ⟨#[]⟩,.slice none 0 0,.slice none 0 0] 80 2 (Nat.le_refl _) WX (size:=12) rfl Wq;rw[←bo,←bD]at bZ;have fa:Rd w3 w3.heap.size 12 (some ⟨gb,0,none⟩) 2 2 (rowC saC [⟨true,255,[]⟩,⟨true,4096,[]⟩]):=bZ.rd;have Hn:=Hh.trans (BD.mono Hh.size);have fy:=X7 5 [⟨true,255,[]⟩,⟨true,4096,[]⟩] vX ctl5 WJ (some ⟨gb,0,none⟩) 2 2 (h.below Hn) (he.on Hn) fa Bw hs;rw[show(((5:Nat)):Int)=5 from rfl]at fy;clear bZ fa hG BD Ha Hc
 go_wp2_with(with_reducible refine h_A ?_)
 first
 | done
 | have qq5s:=qq5s
 | rw[←bD,←bo]
   clear bD bo
 (with_reducible refine fy.mono ?_)
 rintro e w5 ⟨rfl,bV⟩;clear fy;have iU:=bV;obtain⟨U',T',hM,_,_,_⟩:=bV;have c0:=hM.c0;have c1:=hM.thaw 0;clear hM;go_wp2_with(with_reducible refine h_A ?_);go_end0
 first|(have qq5s:=qq5s;exact⟨rfl,(LStep.from Hy iU).set h.lb 0 _ (fun _ _ hM=>hM.setSt 5)⟩)|(exact⟨rfl,(LStep.from Hn iU).set h.lb 0 _ (fun _ _ hM=>hM.setSt 2)⟩)):p:=h
theorem Z4f_(h:p:=by
 go_wp2_with(with_reducible refine h_A ?_);refine zv rfl da rfl rfl rfl underlying78 rfl Wj rfl ?_
 exact⟨vl0,⟨none,0,none,0⟩,0,5,rfl,RV.zero _ _,H3,Nat.zero_le _,fun y rest e hv he=>absurd he (fun he=>cJ.out y rest e hv he)⟩):p:=h
theorem Zw_(h:p:=by
 first
 | have qq5u:=qq5u
   have hq:((str L).toList==(str (l.take L.length)).toList)=false:=by rw[DY.out,decide_eq_false mI]
   have cJ:Hid (∀(y:Vl) (rest:List UInt8),l=vlB y++rest→VB y→errV y=0→False):=Lib.hid (fun y rest e hv hy=>by
    have:=(OV.out y rest e hv hy).2
    exact mI (by rw[this];simp))
   clear mI hcut
   refine rg_t 13 hS ?_
 | have g1:(L.length:Int)>(n:Int):=by omega
   have Gp:(n:Int)<(L.length:Int):=by omega
   have cJ:Hid (∀(y:Vl) (rest:List UInt8),l=vlB y++rest→VB y→errV y=0→False):=Lib.hid (fun y rest e hv hy=>by
    have:=congrArg List.length (OV.out y rest e hv hy).2;rw[List.length_append]at this
    omega)
   refine rg_t 0 hS ?_;simp only[List.getElem_toArray,List.getElem_cons_zero,Act.put,List.setIfInBounds_toArray,List.set_cons_zero,List.set_cons_succ];refine rg_t 1 hS ?_;simp only[g_S];refine rg_t 2 hS ?_;simp only[g_S];refine rg_t 3 hS ?_;simp only[g_S];refine rg_t 4 hS ?_;simp only[g_S];refine rg_t 5 hS ?_
 simp only[g_S]
 first
 | done
 | have qq5u:=qq5u
 | refine jT 6 rfl Wj Wj Wj hS rfl ?_
   simp only[Act.put,List.setIfInBounds_toArray,List.set_cons_zero,List.set_cons_succ];refine jT 7 rfl Wj Wj Wj hS rfl ?_;simp only[Act.put,List.setIfInBounds_toArray,List.set_cons_zero,List.set_cons_succ];refine jT 8 rfl Wj Wj Wj hS rfl ?_;simp only[Act.put,List.setIfInBounds_toArray,List.set_cons_zero,List.set_cons_succ];refine jT 9 rfl Wj Wj Wj hS rfl ?_;simp only[Act.put,List.setIfInBounds_toArray,List.set_cons_zero,List.set_cons_succ];refine jT 10 rfl Wj Wj Wj hS rfl ?_;simp only[Act.put,List.setIfInBounds_toArray,List.set_cons_zero,List.set_cons_succ];refine jT 11 rfl Wj Wj Wj hS rfl ?_;simp only[Act.put,List.setIfInBounds_toArray,List.set_cons_zero,List.set_cons_succ];refine jT 12 rfl Wj Wj Wj hS rfl ?_;simp only[Act.put,List.setIfInBounds_toArray,List.set_cons_zero,List.set_cons_succ];refine jT 13 rfl Wj Wj Wj hS rfl ?_;simp only[Act.put,List.setIfInBounds_toArray,List.set_cons_zero,List.set_cons_succ]
 refine rg_t 14 hS ?_;simp only[g_S];refine zz Wj ?_;first|(have qq5u:=qq5u;clear hq DY)|(skip)
 go_wp2_with(with_reducible refine h_B ?_);refine zc (zn (v:=.agg #[.int .u8 0,.int .u64 0,.string ⟨#[]⟩,.slice none 0 0,.slice none 0 0]) (vs:=[.int .u8 0,.int .u64 0,.string ⟨#[]⟩,.slice none 0 0,.slice none 0 0]) rfl rfl rfl rfl LA rfl Wj Wz uZ #[.int .u8 0,.int .u64 0,.string ⟨#[]⟩,.slice none 0 0,.slice none 0 0] Wz ?_);intro oq da BY _;have H3:=(en).grown BY (en).size Wx
 exact Z4f_):p:=h
theorem Zx_(h:p:=by
 go_simp;first|(have qq61:=qq61;refine hK _ _ hS ?_)|(refine hK _ _ (hS.alloc _) ?_)
 clear hK K;try simp only[g_S]
 first
 | have qq61:=qq61
   refine zj 6 rfl Wj rfl (fun K hK=>?_)
 | have k8:=(cT.alloc (.cells #[.bool f.first,.bool f.last,.bool f.beg,.bool f.fin,.int .u8 (f.ty:Int),.int .u8 (f.track:Int),.int .u16 (f.chan:Int),.string (str f.load)] 97)).c0
   refine zj 4 rfl Wj rfl (fun K hK=>?_)
 go_simp;refine hK _ _ (hS.alloc _) ?_;first|(have qq61:=qq61;clear hK K)|(clear hK K k8)
 try simp only[g_S]
 refine zj 7 rfl Wj rfl (fun K hK=>?_);refine jR (W:=wd) yE slF underlying65 rfl rfl rfl rfl f rfl Lw Wq Wq (Nat.zero_le _) ?_;intro A3 c3 w2 Pn bz ey sA;have di:=cT.grown bz (fun e=>(gX gb e.symm).2 rfl);have BI:=hS.grown bz (fun e=>by have:=hlt fb (gX fb e.symm).1;omega);refine hK _ _ BI ?_;clear hK K;try simp only[g_S]
 refine rg_t 8 BI ?_;simp only[g_S];refine rg_t 9 BI ?_;simp only[g_S];have k8:=di.c0;have k9:=di.thaw 0;refine zj 10 rfl Wj rfl (fun K hK=>?_);go_simp;refine hK _ _ (BI.grown (yC w2 gb 0 (.slice A3 (l.length+1) c3)) (fun e=>by injection e with e;have:=hlt gb hF;omega)) ?_;clear hK K k8 k9;refine zz Wj ?_;go_wp2_with(with_reducible refine h_A ?_);go_meet;have H7:=yC w2 gb 0 (.slice A3 (l.length+1) c3);have iR:=xW (off:=0) di (.slice A3 (l.length+1) c3);have fL:=hlt gb hF;have tE:∀k,blk A=some k→k<w.heap.size:=fun k e=>hlt k (gX k e).1
 have pq:=bw.size
 have mr:∀k,blk A3=some k→(F k∨wd.heap.size≤k)∧k≠gb:=fun k e=>by
  rcases ey with e2|e2
  ·rw[e2]at e;exact⟨.inl (gX k e).1,(gX k e).2⟩
  have:=e2 k e;exact⟨.inr this,by omega⟩
 have Ns:KeepF F wd _:=(KeepF.grown (F:=F) bz (fun g hg=>.inl (gX g hg).1)).trans (KeepF.grown (F:=F) H7 (fun g hg=>.inl MJ)) (fun g hg=>.inl hg);refine⟨A3,c3,?_,?_,?_,?_,?_,?_,?_,?_⟩
 ·rw[List.length_append];exact iR
 ·exact BI.grown H7 (sne Wq)
 ·exact(dv.grown bz (fun e=>by have:=tE rb e.symm;omega)).grown H7 (sne Wq)
 ·exact(nk.grown bz (fun e=>by have:=tE nb e.symm;omega)).grown H7 (sne Wq)
 ·rw[List.length_append];exact zk Pn H7 (fun k e e2=>by injection e2 with e2;exact(mr k e).2 e2.symm)
 ·exact zk (zk gj bz (fun k e e2=>by have:=tE k e2;have:=gQ k e;omega)) H7 (fun k e e2=>by injection e2 with e2;have:=gQ k e;omega)
 ·exact(KeepF.below bw).trans Ns (fun g hg=>.inl hg)
 intro k e;have h2:=gj.blk_lt (g:=k);rcases ey with e2|e2
 ·rw[e2]at e;have:=tE k e;exact⟨.inl (gX k e).1,(gX k e).2,by omega,by omega,by omega,fun e3=>by have:=gQ k e3;omega⟩
 have:=e2 k e;exact⟨.inr Wq,by omega,by omega,by omega,by omega,fun e3=>by have:=(h2 e3).2;omega⟩):p:=h
theorem Zy_(h:p:=by
 first
 | done
 | have qq6d:=qq6d
 | rename_i h5
   have DH:∀(M:LS) (r:List UInt8),M.st≠0→LG M→M.told=[]→M.sent.length≤1000→r.length≤b.length+s.length→
     LG (LS.post ctlG (M,r)).1∧(LS.post ctlG (M,r)).2.length≤b.length+s.length∧(LS.post ctlG (M,r)).1.sent.length≤20000*(b.length+s.length+2)∧(LS.post ctlG (M,r)).1.told.length≤b.length+s.length+1:=by
    intro M r m0 hM mt ms hr;unfold LS.post;simp only;split
    ·exact⟨hM,hr,(show M.sent.length≤20000*(b.length+s.length+2) by omega),(show M.told.length≤b.length+s.length+1 by rw[mt];simp)⟩
    ·have gu:=vn r;have hLB:LB 1000 ((zu r).1.length+1) 0 M:=⟨by omega,hM.inv,hM.sz,hM.ch,m0,hM.st,by omega,by rw[mt];simp⟩;obtain⟨k',hk,hG⟩:=V6 (zu r).1 0 M hLB Wq (fun f hf=>(vo r f hf).1);simp only;unfold LS.frames;split
     ·have hc:=hG.close (by omega:k'<(zu r).1.length+1) 501 yp WJ;exact⟨hc.lg,by rw[List.length_drop];omega,Nat.le_trans hc.sent Wq,Nat.le_trans hc.told Wq⟩
     ·exact⟨hG.lg,by rw[List.length_drop];omega,Nat.le_trans hG.sent Wq,Nat.le_trans hG.told Wq⟩
 by_cases h0:L.st=0
 ·have hp:L.pre b s=LS.beginL L.core (b++s):=by unfold LS.pre;rw[if_pos h0];rfl
  rw[hp];unfold LS.beginL;split
  ·(first|(have qq6d:=qq6d;refine⟨⟨h.inv,h.sz,h.ch,by show(1:Nat)<256;decide⟩,rfl,?_,by simp⟩)|(refine DH _ _ zAf ⟨h.inv,h.sz,h.ch,by show(1:Nat)<256;decide⟩ rfl ?_ Wz));have:=XS L.sz;(have e:startB.length≤50:=by decide+kernel);(show([]++hdrB++ctlB L.sz startB).length≤1000);simp only[List.length_append,List.length_nil];have e2:hdrB.length=8:=rfl;omega
  first
  | have qq6d:=qq6d
    ·split
     ·exact⟨⟨h.inv,h.sz,h.ch,h.st⟩,rfl,by simp[LS.core],by simp⟩
     refine⟨⟨h.inv,h.sz,h.ch,by show(5:Nat)<256;decide⟩,rfl,?_,by simp⟩;show([]++hdrB).length≤1000
     decide
  | ·split
     ·(have e2:LS.post ctlG (L.core,b++s)=(L.core,b++s):=by unfold LS.post;rw[if_pos (.inl h0)]);rw[e2];exact⟨⟨h.inv,h.sz,h.ch,h.st⟩,by simp,by simp[LS.core],by simp[LS.core]⟩
     (have e2:∀x:List UInt8,LS.post ctlG ({L.core with st:=5,sent:=L.core.sent++hdrB},x)=({L.core with st:=5,sent:=L.core.sent++hdrB},x):=fun x=>by unfold LS.post;rw[if_pos (.inr rfl)]);rw[e2];refine⟨⟨h.inv,h.sz,h.ch,by show(5:Nat)<256;decide⟩,by simp,?_,by simp[LS.core]⟩;(show([]++hdrB).length≤_);have e2:hdrB.length=8:=rfl;simp only[List.nil_append];omega
 have hp:L.pre b s=(L.core,b++s):=by unfold LS.pre;rw[if_neg h0];rfl
 rw[hp]
 first|(have qq6d:=qq6d;exact⟨⟨h.inv,h.sz,h.ch,h.st⟩,rfl,by simp[LS.core],by simp⟩)|(exact DH _ _ h0 ⟨h.inv,h.sz,h.ch,h.st⟩ rfl (by simp[LS.core]) Wz)):p:=h
theorem Z4a_(h:p:=by
 go_wp2_with(with_reducible refine h_A ?_);refine B6.mono ?_;rintro e w4 ⟨A4,c4,rfl,Bq,Hn⟩;have Iq:=Hc.size;have bR:=zh bW Hn;have bG:=Hc.trans (Hn.mono Hc.size);have gP:=Hn.size;clear x0 x1 x2 x3 B6 bF bW Hc Hn;go_wp2_with(with_reducible refine h_B ?_);refine zc (yc slB rfl rfl rfl rfl Bq bR.rd (zM _) Wq Hj gP ?_);intro A7 c7 w7 dI H7 iR;have Bn:=bG.grown H7 bG.size (fun g hg=>by have:=(Bq.blk_lt hg).1;omega);have e:(M++I).length=M.length+m:=by rw[List.length_append,Rw.out]
 rw[←List.map_append,←e]at dI;go_wp2_with(with_reducible refine h_A ?_);go_ret2;rw[HH.out]
 exact⟨A7,c7,by rw[e];rfl,Own.base_le dI Wq,Bn⟩):p:=h
theorem Zz_(h:p:=by
 first|(have qq6e:=qq6e;have HH:Hid (RES=(([UInt8.ofNat cls,UInt8.ofNat code]++ [1,0])++be 2 fl)++I):=Lib.hid (by rw[NR.out];rfl))|(have HH:Hid (RES=(([UInt8.ofNat cls,UInt8.ofNat code]++ [1,1])++be 2 fl)++I):=Lib.hid (by rw[NR.out];rfl))
 clear NR
 first
 | have qq6e:=qq6e
   have hM:puts ([UInt8.ofNat cls,UInt8.ofNat code]++ [1,0]) fl 2=([UInt8.ofNat cls,UInt8.ofNat code]++ [1,0])++be 2 fl:=by unfold puts;rw[if_pos WJ];rfl
   have B6:=yP A5 4 c5 ([UInt8.ofNat cls,UInt8.ofNat code]++ [1,0]) fl 2 w5 ct.rd Wq Wq
 | have lF:Own w5 (mb+1) 5 1 A5 4 c5 (([UInt8.ofNat cls,UInt8.ofNat code]++ [1,0]).map u8v):=ct
   obtain⟨g5,rfl,Rn,eG,fL,ez,F3,bV⟩:=OwnB.at_k lF (k:=3) Wq;have Gy:w5.cell? ⟨g5,3,none⟩=some (.int .u8 0):=ez;have MS:OwnB (w5.setCell ⟨g5,3,none⟩ (.int .u8 1)) (mb+1) (some ⟨g5,0,none⟩) 4 c5 ([UInt8.ofNat cls,UInt8.ofNat code]++ [1,1]):=bV 1;have rC:=KI w5 ⟨g5,3,none⟩ (.int .u8 1);have dJ:=bF.grown rC (by intro e;injection e with e;simp at e;omega);have Hn:=Hc.grown rC Hc.size (fun g hg=>by injection hg with hg;simp at hg;omega);have lf:blk (some (⟨g5,0,none⟩:Addr))=some g5:=rfl;have Bq:=zk bW rC (fun g hg e=>by injection e with e;simp at e;exact r5 g hg (by rw[lf,e]));clear ez bV rC ct lF Hc bW;have x0:=bF.c0;have x1:=bF.c1;have x2:=bF.c2;have x3:=bF.c3;go_upto_region 21 with fail;clear x0 x1 x2 x3 bF Gy F3;generalize(w5.setCell ⟨g5,3,none⟩ (.int .u8 1))=w6 at*;have ct:=MS;have bF:=dJ;have Hc:=Hn;have bW:=Bq;clear MS dJ Hn Bq;(have hM:puts ([UInt8.ofNat cls,UInt8.ofNat code]++ [1,1]) fl 2=([UInt8.ofNat cls,UInt8.ofNat code]++ [1,1])++be 2 fl:=by unfold puts;rw[if_pos WJ];rfl);have B6:=yP (some ⟨g5,0,none⟩) 4 c5 ([UInt8.ofNat cls,UInt8.ofNat code]++ [1,1]) fl 2 w6 ct.rd Wq Wq
 rw[hM]at B6
 first
 | have qq6e:=qq6e
   have Us:(([UInt8.ofNat cls,UInt8.ofNat code]++ [1,0])++be 2 fl).length≤10:=by simp[be]
   generalize([UInt8.ofNat cls,UInt8.ofNat code]++ [1,0])++be 2 fl=M at*
 | have Us:(([UInt8.ofNat cls,UInt8.ofNat code]++ [1,1])++be 2 fl).length≤10:=by simp[be]
   generalize([UInt8.ofNat cls,UInt8.ofNat code]++ [1,1])++be 2 fl=M at*
 clear hM;have x0:=bF.c0;have x1:=bF.c1;have x2:=bF.c2;have x3:=bF.c3
 exact Z4a_):p:=h
theorem Z5s_(h:p:=by
 refine .inr ⟨1,by omega,by omega,?_⟩;unfold okB;rw[if_pos rfl]
 split<;>split<;>omega):p:=h
theorem Z10_(h:p:=by
 unfold xD u8N swN at*;generalize cY:yh l 0=b0 at*;first|(have qq6g:=qq6g;intro k dM Bk)|(skip)
 by_cases c1:b0<128
 first
 | have qq6g:=qq6g
   ·rw[if_pos c1]at h;injection h with h;omega
   rw[if_neg c1]at h hs
 | ·rw[if_pos c1]at h ⊢;injection h with h;exact .inl h
   rw[if_neg c1]at h ⊢
 by_cases c2:194≤b0∧b0≤223
 ·rw[if_pos c2]at h;injection h with h1 h;injection h with h2 h3
  subst h1 h2 h3;by_cases d:194≤b0∧b0≤223∧1<l.length∧128≤yh l 1∧yh l 1≤191
  first
  | have qq6g:=qq6g
    ·(obtain rfl:k=1:=by omega);unfold okB;rw[if_pos rfl];omega
    ·rw[if_neg d,if_neg Wq,if_neg Wq]at hs;omega
  | ·rw[if_pos d];exact .inl rfl
    ·rw[if_neg d,if_neg Wq,if_neg Wq];refine .inr ⟨rfl,?_⟩;by_cases e:l.length<2
     ·exact .inl e
     exact .inr ⟨1,by omega,by omega,by unfold okB;rw[if_pos rfl];omega⟩
 rw[if_neg c2]at h;first|(have qq6g:=qq6g;rw[if_neg Wq]at hs)|(rw[if_neg Wq])
 by_cases c3:224≤b0∧b0≤239
 ·rw[if_pos c3]at h;injection h with h1 h;injection h with h2 h3
  subst h1 h2 h3;by_cases d:224≤b0∧b0≤239∧2<l.length∧128≤yh l 1∧yh l 1≤191∧(b0=224→160≤yh l 1)∧(b0=237→yh l 1≤159)∧128≤yh l 2∧yh l 2≤191
  first
  | have qq6g:=qq6g
    ·(have:k=1∨k=2:=by omega);rcases this with rfl|rfl
     ·unfold okB;rw[if_pos rfl];split<;>split<;>omega
     unfold okB;rw[if_neg Wq];omega
    ·rw[if_neg d,if_neg Wq]at hs;omega
  | ·rw[if_pos d];exact .inl rfl
    ·rw[if_neg d,if_neg Wq];refine .inr ⟨rfl,?_⟩;by_cases e:l.length<3
     ·exact .inl e
     by_cases k2:128≤yh l 2∧yh l 2≤191
     ·exact Z5s_
     exact .inr ⟨2,by omega,by omega,by unfold okB;rw[if_neg Wq];omega⟩
 rw[if_neg c3]at h;first|(have qq6g:=qq6g;rw[if_neg Wq]at hs)|(rw[if_neg Wq])
 by_cases c4:240≤b0∧b0≤244
 ·rw[if_pos c4]at h;injection h with h1 h;injection h with h2 h3
  subst h1 h2 h3;by_cases d:240≤b0∧b0≤244∧3<l.length∧128≤yh l 1∧yh l 1≤191∧(b0=240→144≤yh l 1)∧(b0=244→yh l 1≤143)∧128≤yh l 2∧yh l 2≤191∧128≤yh l 3∧yh l 3≤191
  first
  | have qq6g:=qq6g
    ·(have:k=1∨k=2∨k=3:=by omega);rcases this with rfl|rfl|rfl
     ·unfold okB;rw[if_pos rfl];split<;>split<;>omega
     ·unfold okB;rw[if_neg Wq];omega
     unfold okB;rw[if_neg Wq];omega
    ·rw[if_neg d]at hs;omega
  | ·rw[if_pos d];exact .inl rfl
    ·rw[if_neg d];refine .inr ⟨rfl,?_⟩;by_cases e:l.length<4
     ·exact .inl e
     by_cases k2:128≤yh l 2∧yh l 2≤191
     ·by_cases k3:128≤yh l 3∧yh l 3≤191
      ·exact Z5s_
      exact .inr ⟨3,by omega,by omega,by unfold okB;rw[if_neg Wq];omega⟩
     exact .inr ⟨2,by omega,by omega,by unfold okB;rw[if_neg Wq];omega⟩
 rw[if_neg c4]at h;first|done|(have qq6g:=qq6g)|(rw[if_neg Wq])
 injection h with h
 first|(have qq6g:=qq6g;omega)|(exact .inl h)):p:=h
theorem Z11_(h:p:=by
 first
 | have qq6k:=qq6k
   have h1:=fun W (h:Rdr F W (.pointer (some ⟨o,0,none⟩)) (some vb) l false)=>yk h 4 Wq Wq
 | have qq6j:=qq6j
   have h1:=fun W (h:Rdr F W (.pointer (some ⟨o,0,none⟩)) (some vb) l false)=>yk h 2 Wq Wq
 | have qq6i:=qq6i
   have h1:=fun W (h:Rdr F W (.pointer (some ⟨o,0,none⟩)) (some vb) l false)=>yk h 1 Wq Wq
 | have qq6h:=qq6h
   have h1:=fun W (h:Rdr F W (.pointer (some ⟨o,0,none⟩)) (some vb) l false)=>qD h 1 255 Wq Wq Wq Wq
 | have h1:=fun W (h:Rdr F W (.pointer (some ⟨o,0,none⟩)) (some vb) l false)=>qD h 2 65535 Wq Wq Wq Wq
 rw[←hT]at h1;clear hT;have bm:=KP.refl B ab vb W;first|(have qq6k:=qq6k;go_enter func155,ntmps155)|(have qq6j:=qq6j;go_enter func154,ntmps154)|(have qq6i:=qq6i;go_enter func153,ntmps153)|(have qq6h:=qq6h;go_enter func156,ntmps156)|(go_enter func158,ntmps158)
 go_upto_region 0 with fail;refine zt (fun W:World=>Box W cb 198 #[.pointer (some ⟨ab,0,none⟩)]) Wj ?_;replace Bm:Box W.drew cb 198 #[.pointer (some ⟨ab,0,none⟩)]:=Bm;replace ha:Box W.drew ab 80 #[.bool is,.int .u64 0,.string ⟨#[]⟩,.int .u32 0,.string ⟨#[]⟩,.string ⟨#[]⟩,.slice none 0 0,.int .u8 0,.int .u64 0,.string ⟨#[]⟩,.slice none 0 0,.slice none 0 0]:=ha;replace hr:=hr.drew;replace bm:=bm.drew;have h1:=h1 _ hr;generalize W.drew=wd at*;refine ze 0 (v:=?_) rfl Wj Wj Wj Bm rfl ?_ ?_;rotate_left
 ·intro wS He;have y0:=He.cell (j:=0) rfl;go_simp;(with_reducible rfl)
 simp only[List.getElem_toArray,List.getElem_cons_zero,Act.put,List.setIfInBounds_toArray,List.set_cons_zero,List.set_cons_succ];refine rg_t 1 Bm ?_;simp only[g_S];refine zj 2 rfl Wj rfl (fun K hK=>?_);go_simp;refine h1.mono ?_;rintro e w2 ⟨rfl,cH,Hm⟩;have dW:=Bm.grown Hm (sne Wq);have db:=ha.grown Hm (sne Wq);have cP:=bm.grown ew Hm nX;clear h1 hr Bm ha bm Hm;refine hK _ _ dW ?_;clear hK K;try simp only[g_S]
 refine rg_t 3 dW ?_;simp only[g_S];refine rg_t 4 dW ?_;simp only[g_S];refine zj 5 rfl Wj rfl (fun K hK=>?_)
 first
 | have qq6k:=qq6k
   refine zK (g:=ab) (j:=1) (v:=.int .u64 (T.1:Int)) (vs:=[.int .u64 (T.1:Int)]) rfl rfl rfl db rfl Wj Wz wX #[.bool is,.int .u64 (T.1:Int),.string ⟨#[]⟩,.int .u32 0,.string ⟨#[]⟩,.string ⟨#[]⟩,.slice none 0 0,.int .u8 0,.int .u64 0,.string ⟨#[]⟩,.slice none 0 0,.slice none 0 0] Wz ?_
 | have qq6j:=qq6j
   refine zK (g:=ab) (j:=1) (v:=.int .u64 (T.1:Int)) (vs:=[.int .u64 (T.1:Int)]) rfl rfl rfl db rfl Wj Wz wX #[.bool is,.int .u64 (T.1:Int),.string ⟨#[]⟩,.int .u32 0,.string ⟨#[]⟩,.string ⟨#[]⟩,.slice none 0 0,.int .u8 0,.int .u64 0,.string ⟨#[]⟩,.slice none 0 0,.slice none 0 0] Wz ?_
 | have qq6i:=qq6i
   refine zK (g:=ab) (j:=1) (v:=.int .u64 (T.1:Int)) (vs:=[.int .u64 (T.1:Int)]) rfl rfl rfl db rfl Wj Wz wX #[.bool is,.int .u64 (T.1:Int),.string ⟨#[]⟩,.int .u32 0,.string ⟨#[]⟩,.string ⟨#[]⟩,.slice none 0 0,.int .u8 0,.int .u64 0,.string ⟨#[]⟩,.slice none 0 0,.slice none 0 0] Wz ?_
 | refine zK (g:=ab) (j:=2) (v:=.string (str T.1)) (vs:=[.string (str T.1)]) rfl rfl rfl db rfl Wj Wz wX #[.bool is,.int .u64 0,.string (str T.1),.int .u32 0,.string ⟨#[]⟩,.string ⟨#[]⟩,.slice none 0 0,.int .u8 0,.int .u64 0,.string ⟨#[]⟩,.slice none 0 0,.slice none 0 0] Wz ?_
 intro w3 ml H6 _;have ny:=dW.grown H6 (sne Wq);have cj:=cH.kept H6 (fun g hg bH=>by injection hg with hg;subst hg;exact iG bH);have cz:=cP.grown ew H6 Uj;refine hK _ _ ny ?_;clear hK K;refine zz Wj ?_;go_wp2_with(with_reducible refine h_A ?_);go_end0
 exact⟨rfl,cj,ml,cz⟩):p:=h
theorem Z12_(h:p:=by
 obtain⟨K1,j1,K2,j2⟩:=h;have BE:=fun{i:Nat} (hi:i<v.list.length)=>hv.elem hi
 simp only at BE ⊢;obtain⟨N,hN⟩:∃N,N=v.list.length:=⟨_,rfl⟩
 have GX:N≤140737488351232:=by rw[hN];exact hv.bounds.2.2.2.2.2
 rw[←hN];have HN:=Lib.hid hN;clear hN hv;have Gv:=Lib.hid bC;clear bC;go_enter func183,ntmps183;go_wp2_with(with_reducible refine h_A ?_);go_loopw [8] (fun s8 wr=>∃(i:Nat),i≤N∧s8= .int .i64 i∧Hid ((v.list.drop i).any p=v.list.any p)∧Below w.heap.size w wr) (fun s8 _=>N-(RowKit.intOf s8).toNat)
 case atStart=>exact⟨0,by omega,rfl,Lib.hid rfl,Below.refl _ _⟩
 obtain⟨i,hi,rfl,HC,hB⟩:=hrel;by_cases hlt:i<N
 ·have g1:(i:Int)<(N:Int):=by omega
  have BB:i<v.list.length:=by rw[←HN.out];exact hlt
  obtain⟨b,off,hx,rfl,ek,HX⟩:=BE BB;obtain⟨k0,k1,k2,k3,k4⟩:=HX wr hB;have HD:Hid ((v.list.drop i).any p=(p v.list[i]||(v.list.drop (i+1)).any p)):=Lib.hid (by rw[List.drop_eq_getElem_cons BB,List.any_cons]);have bO:=Gv.out _ (List.getElem_mem BB) hx wr hB (ek.up hB);clear HX BE ek;generalize v.list[i]=x at*;unfold vlV at bO;simp only[List.append_toArray,List.cons_append,List.nil_append]at bO;go_wp2_with(with_reducible refine h_A ?_);refine bO.mono ?_;rintro e w2 ⟨rfl,Hc⟩;have iS:=hB.trans (Hc.mono hB.size);clear bO k0 k1 k2 k3 k4
  cases hp:p x
  ·have cL:Hid ((v.list.drop (i+1)).any p=v.list.any p):=Lib.hid Nq;go_wp2_with(with_reducible refine h_A ?_);exact⟨⟨i+1,by omega,by go_num,cL,iS⟩,by simp[RowKit.intOf];omega⟩
  have cL:Hid (v.list.any p=true):=Lib.hid Nq;go_wp2_with(with_reducible refine h_A ?_);go_ret;exact⟨⟨i,rfl,by rw[cL.out];simp⟩,iS⟩
 have HQ:Hid (v.list.any p=false):=Lib.hid (by rw[←HC.out,List.drop_eq_nil_of_le MX];rfl);have g1:¬(i:Int)<(N:Int):=by omega
 clear BE;go_wp2_with(with_reducible refine h_A ?_);go_ret
 exact⟨⟨_,rfl,by rw[HQ.out];rfl⟩,hB⟩):p:=h
theorem Z4c_(h:p:=by
 have HV:Hid (xQ ⟨ch,tr,l⟩=70):=Lib.hid (by
  have:xn 0 none l=false:=by
   rw[mY.out];(try rw[HP.out]);simp;try omega
  simp[xQ,asOk,this])
 go_upto_region 5 with fail;try simp only[Act.put]
 go_quiet(fail);go_wp2_with(with_reducible refine h_B ?_);go_ret
 exact⟨by rw[HV.out];rfl,za Hh _⟩):p:=h
theorem Z46_(h:p:=by
 first|(have qqkm:=qqkm;have d1:decide ((3:Int)<(s.ty:Int))=true:=by simp;omega)|(have d3:(16384:Int)-(m:Int)<(s.load.length:Int):=by omega)
 exact Z4c_):p:=h
theorem Z13_(h:p:=by
 first
 | have qq6r:=qq6r
   by_cases c3:16384<m+s.load.length
 | obtain⟨j,rfl⟩:∃j,i=j+1:=⟨i-1,by omega⟩
   obtain⟨b',off',Ae,_,Ua,TQ⟩:=BE (i:=j) Wq;(obtain⟨rfl,rfl⟩:b=b'∧off=off':=by simpa using Ae);have p0:w3.cell? ⟨b,off+j*2,none⟩=some (.int .u8 (l[j].ty:Int)):=(Hh.cell (p:=⟨b,off+j*2,none⟩) fZ).trans (TQ 0 _ rfl);have B6:=CF.out _ (List.getElem_mem Ua);have HP:Hid (vx l (j+1)=some l[j].ty):=Lib.hid (by simp[vx,Ua]);have hwj:IntKind.i64.wrap (j:Int)=(j:Int):=IntWalk.i64_in _ ⟨by omega,by omega⟩;(have hj0:(0:Int)<(j:Int)+1:=by omega);(have hj1:(j:Int)<(n:Int):=by omega);clear TQ Ae;generalize l[j].ty=pt at*;by_cases c2:s.ty≤pt
 ·first
  | have qq6r:=qq6r
    have d3:(16384:Int)-(m:Int)<(s.load.length:Int):=by omega
  | have d2:(s.ty:Int)≤(pt:Int):=by omega
    have HE:=Lib.hid c2;clear c2
  exact Z4c_
 first
 | have qq6r:=qq6r
   (have d3:decide ((16384:Int)-(m:Int)<(s.load.length:Int))=false:=by simp;omega);have HV:Hid (xn 0 none l=xn (m+s.load.length) (vx l 1) (l.drop 1)):=Lib.hid (by rw[mY.out];simp[vx];intro _;omega);go_upto_region 5 with fail;(try simp only[Act.put]);go_quiet(fail);have Ws:=dN.c1;go_wp2_with(with_reducible refine h_B ?_)
   exact⟨⟨0+1,m+s.load.length,by omega,by omega,by go_num,by go_num,HV,bS,za Hh _⟩,by simp[RowKit.intOf];omega⟩
 | have d2:decide ((s.ty:Int)≤(pt:Int))=false:=by simp;omega
   by_cases c3:16384<m+s.load.length
   ·exact Z46_
   ·(have d3:decide ((16384:Int)-(m:Int)<(s.load.length:Int))=false:=by simp;omega);have HV:Hid (xn 0 none l=xn (m+s.load.length) (vx l (j+1+1)) (l.drop (j+1+1))):=Lib.hid (by rw[mY.out,HP.out];simp;intro _;omega);go_upto_region 5 with fail;(try simp only[Act.put]);go_quiet(fail);have Ws:=dN.c1;go_wp2_with(with_reducible refine h_B ?_)
    exact⟨⟨(j+1)+1,m+s.load.length,by omega,by omega,by go_num,by go_num,HV,bS,za Hh _⟩,by simp[RowKit.intOf];omega⟩):p:=h
theorem Z14_(h:p:=by
 first|done|(have qq6x:=qq6x)|(have qq6w:=qq6w)|(have has:=zi v.s)
 subst hk
 first
 | have qq6x:=qq6x
   generalize dr:(((50:Nat):Int))=k at*
   obtain rfl:k=50:=by rw[←dr];rfl
 | have qq6w:=qq6w
   generalize dr:(((49:Nat):Int))=k at*
   obtain rfl:k=49:=by rw[←dr];rfl
 | have qq6v:=qq6v
   generalize dr:(((149:Nat):Int))=k at*
   obtain rfl:k=149:=by rw[←dr];rfl
 | generalize dr:(((160:Nat):Int))=k at*
   obtain rfl:k=160:=by rw[←dr];rfl
 clear dr;have c0:=hX.c0;have c1:=hX.c1;have c2:=hX.c2;have c3:=hX.c3;have c4:=hX.c4;go_enter func118,ntmps118;go_upto_region 1 with fail;rw[←Hg,←Hi];clear Hg Hi;go_upto_region 2 with fail;have Hk:=hX.below Hc;first|(have qq6x:=qq6x;generalize(w1.alloc (.cells #[.int .u8 50] 5))=w2 at*)|(have qq6w:=qq6w;generalize(w1.alloc (.cells #[.int .u8 49] 5))=w2 at*)|(have qq6v:=qq6v;generalize(w1.alloc (.cells #[.int .u8 149] 5))=w2 at*)|(generalize(w1.alloc (.cells #[.int .u8 160] 5))=w2 at*)
 have hB:=Ha.trans (Hc.mono BZ);have ff:=dE.up Hc;have cm:=Hc.size;generalize dc:w1.heap.size=lb at*;have wL:Hid (xb≠lb):=Lib.hid mQ;have DI:=Lib.hid dc;clear c0 c1 c2 c3 c4 hX dE dc Ha;have c0:=Hk.c0;have c1:=Hk.c1;have c2:=Hk.c2;have c3:=Hk.c3;have c4:=Hk.c4;go_wp2_with(with_reducible refine h_A ?_)
 first
 | have qq6x:=qq6x
   (have iw: [UInt8.ofNat 50]++be 8 v.n=R:=by rw[HR.out];simp[yu]);have lu:R.length=1+8:=by rw[←iw,List.length_append,zr];rfl
   have hp:=yd v.n 8 w2 gO Wq
 | have qq6w:=qq6w
   (have iw: [UInt8.ofNat 49]++be 8 v.n=R:=by rw[HR.out];simp[yu]);have lu:R.length=1+8:=by rw[←iw,List.length_append,zr];rfl
   have hp:=yd v.n 8 w2 gO Wq
 | have qq6v:=qq6v
   (have iw:([UInt8.ofNat 149]++be 2 v.s.length)++v.s=R:=by rw[HR.out];simp[yu]);have iY:Hid (R.length=1+2+v.s.length):=Lib.hid (by rw[←iw,List.length_append,List.length_append,zr];rfl)
   have hp:=yd v.s.length 2 w2 Wq Wq
 | have iw:([UInt8.ofNat 160]++be 4 v.s.length)++v.s=R:=by rw[HR.out];simp[yu]
   have iY:Hid (R.length=1+4+v.s.length):=Lib.hid (by rw[←iw,List.length_append,List.length_append,zr];rfl);have hp:=yd v.s.length 4 w2 Wq Wq
 refine hp.mono ?_;rintro e w3 ⟨A3,Pb,rfl,Bv,Hh⟩;have iX:=zh bZ Hh;have d9:=Hh.size;first|done|(have qq6x:=qq6x)|(have qq6w:=qq6w)|(have bS:=Hk.below Hh)
 clear hp c0 c1 c2 c3 c4;go_wp2_with(with_reducible refine h_A ?_);refine zc (yc slB rfl rfl rfl rfl iX Bv.rd (zM _) Wq Hj Wq ?_);intro A4 q4 w4 Bq Ba _;have bL:=(hB.trans (Hh.mono hB.size)).grown Ba (Nat.le_trans hB.size d9) mJ
 first
 | have qq6x:=qq6x
   rw[←List.map_append,iw]at Bq
   clear iw
 | have qq6w:=qq6w
   rw[←List.map_append,iw]at Bq
   clear iw
 | have Bg:=bS.grown Ba (by intro e;have h9:some xb=some lb:=e;injection h9 with h9;exact wL.out h9)
   have O8:=Ba.size;rw[←List.map_append]at Bq;have c0:=Bg.c0;have c1:=Bg.c1;have c2:=Bg.c2;have c3:=Bg.c3;have c4:=Bg.c4;go_wp2_with(with_reducible refine h_A ?_);refine zc (jC slB underlying9 rfl rfl rfl rfl Bq Wq Wq Wq ?_);intro A5 q5 w5 ct H9;have iS:=bL.grown H9 bL.size (fun g hg=>by have:=(Bq.blk_lt hg).1;omega);rw[←List.map_append,iw]at ct;clear iw c0 c1 c2 c3 c4
 go_wp2_with(with_reducible refine h_A ?_);go_ret
 first|(have qq6x:=qq6x;exact⟨A4,q4,by rw[lu];rfl,by rw[lu];exact Bq.base_le BZ,bL⟩)|(have qq6w:=qq6w;exact⟨A4,q4,by rw[lu];rfl,by rw[lu];exact Bq.base_le BZ,bL⟩)|(exact⟨A5,q5,by rw[iY.out];rfl,by rw[iY.out];exact ct.base_le BZ,iS⟩)):p:=h
theorem Z15_(h:p:=by
 first
 | have qq70:=qq70
   by_cases Ge:n+l.length≤140737488355328
   ·exact qj hT hu hw ho hs hx Hl Ge Hf h
 | have oI:=Hl
   rcases Hl.2 with⟨hv,rfl⟩|⟨g,cap,cur,hv,eG,hg,iy,rV,fX,gB⟩
   ·have wG:xs=[]:=List.eq_nil_of_length_eq_zero (by have:=oI.1;simpa using this);subst wG;(injection hv with h1 h2 h3);subst h1 h3;(refine qj hT hu hw ho hs hx (base:=w.heap.size) (Own.none_ w w.heap.size e 1) Wq (Nat.le_refl _) fun A2 c2 w' h1 h2=>?_);exact h A2 c2 w' (h1.base_le Hf) h2 (.inr fun g hg=>(h1.blk_lt hg).1)
 obtain⟨i,hi,hz,BZ,dT⟩:=hT.i;have dY:xs.length=n:=by simpa using Hl.1
 have e1:Lib.strCells (str l)=l.map u8v:=by
  unfold Lib.strCells;simp[str,u8v]
 first
 | have qq70:=qq70
   have oI:=Hl;rcases Hl.2 with⟨hv,rfl⟩|⟨g,cap,cur,hv,eG,hg,iy,rV,fX,gB⟩
   ·omega
 | skip
 injection hv with h1 h2 h3
 subst h1 h3;rw[Nat.mul_one]at fX gB;refine BigFrame.wpList_want hw fun K hK=>?_
 by_cases fG:n+l.length≤c
 ·have bu:=Lib.run_append_room_string (P:=P) w t u o.type e i hT.u hu hi BZ g n c cur hg (str l) (by rw[zi];exact fG) (by rw[zi];omega);rw[e1,zi]at bu;unfold Oper.wp execOp;simp only[ho,resolve,invoke,builtin,Sem.run_bind,Sem.run_pure,Result.andThen_ok,List.map_toArray,List.map_cons,List.map_nil,hs,hx,bu];first|(have qq70:=qq70;exact hK _ _ (h _ _ _ (jV hg fX gB dY l fG rV eG) ⟨rfl,rfl,rfl,by simp,fun k _ hk=>setRow_other w g k _ (fun e=>hk (by simp[blk,e]))⟩))|(exact hK _ _ (h _ _ _ (jV hg fX gB dY l fG rV eG) ⟨rfl,rfl,rfl,by simp,fun k _ hk=>setRow_other w g k _ (fun e=>hk (by simp[blk,e]))⟩ (.inl rfl)))
 have uc:∀j u,xs[j]?=some u→w.cell? ((⟨g,0,none⟩:Addr).add j)=some u:=World.ownsRow.cells oI (g:=g) rfl
 have bu:=Lib.run_append_grow_string (P:=P) w t u o.type e i (.int .u8 0) hT.u hu hi hz ⟨g,0,none⟩ n c xs (by rw[BZ];simpa using dY) uc (str l) (by rw[zi];omega) (by rw[zi];omega)
  (by rw[dT,zi];exact growslice_fits_wide Wq Wq)
 rw[e1,zi]at bu;unfold Oper.wp execOp;simp only[ho,resolve,invoke,builtin,Sem.run_bind,Sem.run_pure,Result.andThen_ok,List.map_toArray,List.map_cons,List.map_nil,hs,hx,bu]
 first
 | have qq70:=qq70
   exact hK _ _ (h _ _ _ (jm dY l _ (grownCap_ge _ _ _ _) (grownCap_le_maxLen _ _ _ _ (by simp only[maxLen];omega)) Hf) (World.grownBy.trans (b:=w.drew) ⟨rfl,rfl,rfl,Nat.le_refl _,fun _ _ _=>rfl⟩ (World.grownBy_alloc w.drew _ _)))
 | exact hK _ _ (h _ _ _ (jm dY l _ (grownCap_ge _ _ _ _) (grownCap_le_maxLen _ _ _ _ (by simp only[maxLen];omega)) Hf) (World.grownBy.trans (b:=w.drew) ⟨rfl,rfl,rfl,Nat.le_refl _,fun _ _ _=>rfl⟩ (World.grownBy_alloc w.drew _ _)) (.inr fun g' Ho=>by injection Ho with Ho;exact Nat.le_of_eq Ho))):p:=h
theorem Z5o_(h:p:=by
 rintro e w1 ⟨rfl,h1,bN⟩;go_wp2_with(with_reducible refine h_A ?_);go_ret
 exact⟨rfl,h1,bN⟩):p:=h
theorem Z16_(h:p:=by
 by_cases hw:qJ x=true
 ·rw[qE hw]
  have fC:(xe l bad x).1.length≤8:=by
   have:=j9 hw;unfold xe;split
   ·simp
   simp only[List.length_take];omega
  first|(have qq76:=qq76;have hT:=kk h x hx nH)|(have hT:=XI h x hx nH)
  generalize xe l bad x=r at hT fC ⊢;obtain⟨o,l',bad'⟩:=r;simp only at hT fC ⊢;first|(have qq76:=qq76;go_enter func54,ntmps54)|(go_enter func137,ntmps137)
  go_wp2_with(with_reducible refine h_A ?_);first|(have qq76:=qq76;refine(qm x w).mono ?_)|(refine(vJ x w).mono ?_)
  rw[hw];rintro e w' ⟨rfl,rfl⟩;go_wp2_with(with_reducible refine h_A ?_);refine hT.mono ?_;rintro e w1 ⟨A2,c2,rfl,ho,hR,hg⟩;go_wp2_with(with_reducible refine h_A ?_);first|(have qq76:=qq76;go_loopw [17,5] (fun i s wr=>wr=w1∧∃k:Nat,k≤o.length∧i= .int .i64 k∧s= .int .u64 (unbe (o.take k):Nat)) (fun i _ _=>o.length-(intOf i).toNat))|(go_loopw [7,6] (fun i s wr=>wr=w1∧∃k:Nat,k≤o.length∧i= .int .i64 k∧s= .int .u64 (unbe (o.take k):Nat)) (fun i _ _=>o.length-(intOf i).toNat))
  case atStart=>exact⟨rfl,0,by omega,rfl,by simp[kS]⟩
  obtain⟨rfl,k,hk,rfl,rfl⟩:=hrel;by_cases hlt:k<o.length
  ·obtain⟨b,off,rfl,dx,bI,ez⟩:=RdB.at_k ho.rd (k:=k) hlt;have dT:=o[k].toNat_lt;first|(have qq76:=qq76;go_wp2_with(with_reducible refine h_A ?_))|(skip)
   have sQ:unbe (o.take (k+1))=256*unbe (o.take k)+o[k].toNat:=by
    rw[List.take_succ_eq_append_getElem bI];exact Y6 _ _
   have iW:unbe (o.take k)<72057594037927936:=by
    refine Nat.lt_of_lt_of_le (vu _) ?_;refine Nat.le_trans (Nat.pow_le_pow_right Wq (show(o.take k).length≤7 by rw[List.length_take];omega)) WJ
   first
   | have qq76:=qq76
     exact⟨⟨trivial,k+1,by omega,by go_num,by rw[zcr _ _ iW dT,sQ]⟩,by simp[intOf];omega⟩
   | have Do:=Lib.hid sQ
     clear sQ;generalize unbe (o.take k)=s0 at iW Do ⊢;go_wp2_with(with_reducible refine h_A ?_);exact⟨⟨trivial,k+1,by omega,by go_num,by rw[Do.out];simp⟩,by simp[intOf];omega⟩
  obtain rfl:k=o.length:=by omega
  rw[List.take_length];go_wp2_with(with_reducible refine h_A ?_);go_ret;exact⟨rfl,hR,hg⟩
 have nl:qJ x=false:=by simpa using hw
 rw[X5 nl];first|(have qq76:=qq76;go_enter func54,ntmps54)|(go_enter func137,ntmps137)
 go_wp2_with(with_reducible refine h_A ?_);first|(have qq76:=qq76;refine(qm x w).mono ?_)|(refine(vJ x w).mono ?_)
 rw[nl];rintro e w' ⟨rfl,rfl⟩;go_wp2_with(with_reducible refine h_A ?_);first|(have qq76:=qq76;refine(xk h).mono ?_)|(refine(xO h).mono ?_)
 exact Z5o_):p:=h
theorem Z17_(h:p:=by
 first|(have qq7b:=qq7b;have k0:=Bf.c2)|(skip)
 go_simp
 first
 | have qq7b:=qq7b
   refine hK _ _ hS ?_
   clear hK K k0
 | refine hK _ _ ((((Below.refl wd.heap.size wd).alloc (Nat.le_refl _) _).cell (p:=⟨b,off+k*8+4,none⟩) (show b<wd.heap.size by omega)).trans hS) ?_
   clear hK K
 try simp only[g_S]
 first
 | have qq7b:=qq7b
   refine zj 8 rfl Wj rfl (fun K hK=>?_)
 | have k0:=(Bf.alloc (.cells #[.int .u8 (x.ty:Int),.string ⟨#[]⟩] 84)).c2
   refine zj 1 rfl Wj rfl (fun K hK=>?_)
 go_simp;refine hK _ _ ((((Below.refl wd.heap.size wd).alloc (Nat.le_refl _) _).cell (p:=⟨b,off+k*8+4,none⟩) (show b<wd.heap.size by omega)).trans hS) ?_;first|(have qq7b:=qq7b;clear hK K)|(clear hK K k0)
 try simp only[g_S]
 have I2:=hBa.lt;refine zj 9 rfl Wj rfl (fun K hK=>?_);refine jR (W:=wd) yW slG underlying40 rfl rfl rfl rfl (⟨x.ty,[]⟩:Sg) rfl dP Wq Wq rl.1 ?_;intro A6 c6 w9 dt du rQ tP;have BI:=(tP.cell (p:=⟨b,off+k*8+4,none⟩) dx).trans hS;have gg:=Bf.grown du (fun e=>by have:=wW ab e.symm;omega);have Pp:=rl.1;have Oy:=tP.size;refine hK _ _ BI ?_;clear hK K;try simp only[g_S]
 refine rg_t 10 BI ?_;simp only[g_S];refine zj 11 rfl Wj rfl (fun K hK=>?_);refine zK (g:=ab) (j:=2) (v:=.slice A6 (L0.length+1) c6) (vs:=[.slice A6 (L0.length+1) c6]) rfl rfl rfl gg rfl Wj Wz WZ #[.int .u16 (f.chan:Int),.int .u8 (f.track:Int),.slice A6 (L0.length+1) c6] Wz ?_;intro wx dh sq Ld;clear Ld;refine hK _ _ ((((Below.refl w6.heap.size w9).grown sq Wq Wx).cell (p:=⟨b,off+k*8+4,none⟩) dG).trans BI) ?_;clear hK K;try simp only[g_S]
 refine zz Wj ?_;go_wp2_with(with_reducible refine h_A ?_);go_meet;refine⟨A6,c6,dh,?_,?_⟩
 ·rw[ib.out];exact zk dt sq (fun g e e2=>by have:=(dt.blk_lt e).1;injection e2 with e2;omega)
 exact(rl.trans (.grown (F:=fun g=>w7.heap.size≤g) du (fun g hg=>.inl (wW g hg))) (fun g hg=>.inr hg)).trans (.grown (F:=fun g=>g=ab) sq (fun g hg=>.inl Hq)) (fun g hg=>.inl hg)):p:=h
theorem Z40_(h:p:=by
 first
 | cases hb;done
 |obtain⟨h1,h2⟩:=fI hk
  refine⟨h1,fun k hk'=>?_⟩;rw[qs,Bool.and_eq_true,List.all_eq_true]at h2;have h3:=h2.1 _ hk';unfold jd at h3;simp only[Bool.and_eq_true,decide_eq_true_eq]at h3
  exact h3.1.2):p:=h
end Go.PH
