/- Proofs that stand several times. -/
import Derived.Shelf.Utf8.RuneCount
import Derived.Shelf.Strings.Search1
import Derived.Shelf.Strings.Search2
import Derived.Shelf.Strings.Search3
import Derived.Shelf.Strings.Count
import Derived.Shelf.LaysM
import Derived.Shelf.Strings.Shaped
import Derived.Shelf.Strings.Split
import Derived.Shelf.Strings.SplitShaped
import Derived.Shelf.Unicode.Decode
import Derived.Shelf.Strings.RuneCount
import Derived.Shelf.Strings.Explode
import Derived.Shelf.Unicode.DecodeSlow
import Derived.Shelf.Unicode.DecodeAny
import Derived.Shelf.Slices.Equal
import Derived.Shelf.Slices.Empties2
import Derived.Shelf.Bytes.SlSearch0
import Derived.Ground.SlbCloneProg
import Derived.Shelf.Bytes.SlClone
import Derived.Shelf.Bytes.SlEqualAll
import Derived.Shelf.Bytes.Small
import Derived.WalkKit
import Derived.Lib.Hide
import Derived.Deep.Draws
import Derived.Laws.CopyOwn
import Derived.Deep.AppendLies
import Derived.Maps.AppendAt
import Derived.Deep.DeepAppendRoom
import Derived.Lib.AppendStr
import Derived.Maps.RangeWalk
import Derived.Maps.Views
import Derived.WideKeyEntry
import Derived.Maps.OwnSet
import Derived.Deep.DeepAppendWide
import Derived.Laws.CopyRow
import Derived.Laws.Tables
import Derived.Laws.ResultCell
import Derived.Deep.AppendSrc
import Derived.Deep.Upon
import Derived.Maps.OwnOps
import Derived.OrdersHeld
import Derived.Deep.RegionHeld3
import Derived.ProofKit
import Derived.OpenShut
import Derived.Deep.DeepHandedRow
import Derived.Lib.LaidTab
import Derived.SizedLaws
import Derived.Deep.Slices
import Derived.Deep.QuietTactic
import Derived.BigQuiet
import Derived.Laws.BitsAllLaws
import Derived.Laws.Bits64
import Derived.Lib.Builder
import Derived.Lib.UnsafeStr
import Derived.Laws.Externs
import Derived.RegionTactic
import Derived.BigRegion
import Derived.Deep.RegionWith
import Derived.DeepKeys4
import Derived.Deep.Cut
import Derived.WalkSpells
import Derived.Lib.LazyBuf
import Derived.Laws.StructEq
import Derived.Lib.ConvBytes
import Derived.Deep.CutRange
import Derived.WalkMore
import Derived.Lib.SplitLaws
import Derived.Deep.DeepCutAuto
import Derived.WalkLawsBesides
import Derived.Lib.DecodeN
import Derived.Lib.TrimU
import Derived.Lib.OthersKept
import Derived.Lib.LaidU8
import Derived.StringKeys
import Derived.Defers
import Derived.Recover
import Derived.Deep.CutBlock
import Derived.Lib.Bytealg
import Derived.Test.YtfbkameikhgciaaGreatDoorMy01
set_option linter.all false
set_option maxRecDepth 100000
set_option maxHeartbeats 8000000
namespace Go.PH
open Go.RowKit Go.Proofs
variable {p : Prop}
theorem Zx_(h:p:=by
 unfold mtV;obtain⟨xb,w0,bC,bh,hX,Hr⟩:=zo w #[.int .u8 (m.cls:Int),.int .u8 (m.code:Int),.bool m.sync,.slice A m.args.length c] 106
 first
 | have qq5w:=qq5w
   have fz:=Qf 12 [] Zt zdH WJ none 0 0 (h.below Hr) (he.on Hr) (Rd.nil _ _ _ _ WX _) Bm hs;rw[show(((12:Nat)):Int)=12 from rfl]at fz
   go_enter func86,ntmps86
 | have dD:∀W,Calls prog 37 #[.int .u64 255,.string ⟨#[]⟩] W fun e w'=>e= .returned (.agg #[.bool true,.int .u64 255,.string ⟨#[]⟩,.int .u32 0,.string ⟨#[]⟩,.string ⟨#[]⟩,.slice none 0 0,.int .u8 0,.int .u64 0,.string ⟨#[]⟩,.slice none 0 0,.slice none 0 0])∧Below W.heap.size W w':=fun W=>kW 255 [] W
   (have db:∀W,Calls prog 37 #[.int .u64 4096,.string ⟨#[]⟩] W fun e w'=>e= .returned (.agg #[.bool true,.int .u64 4096,.string ⟨#[]⟩,.int .u32 0,.string ⟨#[]⟩,.string ⟨#[]⟩,.slice none 0 0,.int .u8 0,.int .u64 0,.string ⟨#[]⟩,.slice none 0 0,.slice none 0 0])∧Below W.heap.size W w':=fun W=>kW 4096 [] W);go_enter func83,ntmps83
 go_upto_region 1 with fail;rw[←bC,←bh];clear bC bh hX
 first
 | done
 | have qq5w:=qq5w
 | go_wp2_with(with_reducible refine h_A ?_)
   (with_reducible refine(dD _).mono ?_)
   rintro e w1 ⟨rfl,Ha⟩;go_wp2_with(with_reducible refine h_A ?_)
   (with_reducible refine(db _).mono ?_)
   rintro e w2 ⟨rfl,Hc⟩;have Hh:=Hr.trans ((Ha.trans (Hc.mono Ha.size)).mono Hr.size);clear dD db;obtain⟨gb,w3,bC,bh,hG,Bn⟩:=zo w2 #[.bool true,.int .u64 255,.string ⟨#[]⟩,.int .u32 0,.string ⟨#[]⟩,.string ⟨#[]⟩,.slice none 0 0,.int .u8 0,.int .u64 0,.string ⟨#[]⟩,.slice none 0 0,.slice none 0 0,.bool true,.int .u64 4096,.string ⟨#[]⟩,.int .u32 0,.string ⟨#[]⟩,.string ⟨#[]⟩,.slice none 0 0,.int .u8 0,.int .u64 0,.string ⟨#[]⟩,.slice none 0 0,.slice none 0 0] 80;have b7:=yq (w:=w2) w2.heap.size #[.bool true,.int .u64 255,.string ⟨#[]⟩,.int .u32 0,.string ⟨#[]⟩,.string ⟨#[]⟩,.slice none 0 0,.int .u8 0,.int .u64 0,.string ⟨#[]⟩,.slice none 0 0,.slice none 0 0,.bool true,.int .u64 4096,.string ⟨#[]⟩,.int .u32 0,.string ⟨#[]⟩,.string ⟨#[]⟩,.slice none 0 0,.int .u8 0,.int .u64 0,.string ⟨#[]⟩,.slice none 0 0,.slice none 0 0] 80 2 (Nat.le_refl _) WX (size:=12) rfl Wq;rw[←bh,←bC]at b7;have eF:Rd w3 w3.heap.size 12 (some ⟨gb,0,none⟩) 2 2 (rowC saC [⟨true,255,[]⟩,⟨true,4096,[]⟩]):=b7.rd;have Hn:=Hh.trans (Bn.mono Hh.size);have fz:=Qf 5 [⟨true,255,[]⟩,⟨true,4096,[]⟩] v6 ctl5 WJ (some ⟨gb,0,none⟩) 2 2 (h.below Hn) (he.on Hn) eF Bm hs;rw[show(((5:Nat)):Int)=5 from rfl]at fz;clear b7 eF hG Bn Ha Hc
 go_wp2_with(with_reducible refine h_A ?_)
 first
 | done
 | have qq5w:=qq5w
 | rw[←bC,←bh]
   clear bC bh
 (with_reducible refine fz.mono ?_)
 rintro e w5 ⟨rfl,bR⟩;clear fz;have iX:=bR;obtain⟨U',T',hM,_,_,_⟩:=bR;have c0:=hM.c0;have c1:=hM.thaw 0;clear hM;go_wp2_with(with_reducible refine h_A ?_);go_end0
 first|(have qq5w:=qq5w;exact⟨rfl,(LStep.from Hr iX).set h.lb 0 _ (fun _ _ hM=>hM.setSt 5)⟩)|(exact⟨rfl,(LStep.from Hn iX).set h.lb 0 _ (fun _ _ hM=>hM.setSt 2)⟩)):p:=h
theorem Z4o_(h:p:=by
 go_wp2_with(with_reducible refine h_A ?_);refine zv rfl de rfl rfl rfl underlying78 rfl Wj rfl ?_
 exact⟨vl0,⟨none,0,none,0⟩,0,5,rfl,RV.zero _ _,H3,Nat.zero_le _,fun y rest e hv he=>absurd he (fun he=>cN.out y rest e hv he)⟩):p:=h
theorem Zy_(h:p:=by
 first
 | have qq5y:=qq5y
   have hq:((str L).toList==(str (l.take L.length)).toList)=false:=by rw[Ft.out,decide_eq_false mG]
   have cN:Hid (∀(y:Vl) (rest:List UInt8),l=vlB y++rest→VB y→errV y=0→False):=Lib.hid (fun y rest e hv hy=>by
    have:=(Ph.out y rest e hv hy).2
    exact mG (by rw[this];simp))
   clear mG hcut
   refine rg_t 13 hS ?_
 | have g1:(L.length:Int)>(n:Int):=by omega
   have GT:(n:Int)<(L.length:Int):=by omega
   have cN:Hid (∀(y:Vl) (rest:List UInt8),l=vlB y++rest→VB y→errV y=0→False):=Lib.hid (fun y rest e hv hy=>by
    have:=congrArg List.length (Ph.out y rest e hv hy).2;rw[List.length_append]at this
    omega)
   refine rg_t 0 hS ?_;simp only[List.getElem_toArray,List.getElem_cons_zero,Act.put,List.setIfInBounds_toArray,List.set_cons_zero,List.set_cons_succ];refine rg_t 1 hS ?_;simp only[g_S];refine rg_t 2 hS ?_;simp only[g_S];refine rg_t 3 hS ?_;simp only[g_S];refine rg_t 4 hS ?_;simp only[g_S];refine rg_t 5 hS ?_
 simp only[g_S]
 first
 | done
 | have qq5y:=qq5y
 | refine jT 6 rfl Wj Wj Wj hS rfl ?_
   simp only[Act.put,List.setIfInBounds_toArray,List.set_cons_zero,List.set_cons_succ];refine jT 7 rfl Wj Wj Wj hS rfl ?_;simp only[Act.put,List.setIfInBounds_toArray,List.set_cons_zero,List.set_cons_succ];refine jT 8 rfl Wj Wj Wj hS rfl ?_;simp only[Act.put,List.setIfInBounds_toArray,List.set_cons_zero,List.set_cons_succ];refine jT 9 rfl Wj Wj Wj hS rfl ?_;simp only[Act.put,List.setIfInBounds_toArray,List.set_cons_zero,List.set_cons_succ];refine jT 10 rfl Wj Wj Wj hS rfl ?_;simp only[Act.put,List.setIfInBounds_toArray,List.set_cons_zero,List.set_cons_succ];refine jT 11 rfl Wj Wj Wj hS rfl ?_;simp only[Act.put,List.setIfInBounds_toArray,List.set_cons_zero,List.set_cons_succ];refine jT 12 rfl Wj Wj Wj hS rfl ?_;simp only[Act.put,List.setIfInBounds_toArray,List.set_cons_zero,List.set_cons_succ];refine jT 13 rfl Wj Wj Wj hS rfl ?_;simp only[Act.put,List.setIfInBounds_toArray,List.set_cons_zero,List.set_cons_succ]
 refine rg_t 14 hS ?_;simp only[g_S];refine zD Wj ?_;first|(have qq5y:=qq5y;clear hq Ft)|(skip)
 go_wp2_with(with_reducible refine h_B ?_);refine zc (zm (v:=.agg #[.int .u8 0,.int .u64 0,.string ⟨#[]⟩,.slice none 0 0,.slice none 0 0]) (vs:=[.int .u8 0,.int .u64 0,.string ⟨#[]⟩,.slice none 0 0,.slice none 0 0]) rfl rfl rfl rfl IQ rfl Wj Wz uZ #[.int .u8 0,.int .u64 0,.string ⟨#[]⟩,.slice none 0 0,.slice none 0 0] Wz ?_);intro oG de BY _;have H3:=(dC).grown BY (dC).size Wx
 exact Z4o_):p:=h
theorem Zz_(h:p:=by
 go_simp;first|(have qq65:=qq65;refine hK _ _ hS ?_)|(refine hK _ _ (hS.alloc _) ?_)
 clear hK K;try simp only[g_S]
 first
 | have qq65:=qq65
   refine zj 6 rfl Wj rfl (fun K hK=>?_)
 | have k8:=(cH.alloc (.cells #[.bool f.first,.bool f.last,.bool f.beg,.bool f.fin,.int .u8 (f.ty:Int),.int .u8 (f.track:Int),.int .u16 (f.chan:Int),.string (str f.load)] 97)).c0
   refine zj 4 rfl Wj rfl (fun K hK=>?_)
 go_simp;refine hK _ _ (hS.alloc _) ?_;first|(have qq65:=qq65;clear hK K)|(clear hK K k8)
 try simp only[g_S]
 refine zj 7 rfl Wj rfl (fun K hK=>?_);refine jR (W:=wd) yE slF underlying65 rfl rfl rfl rfl f rfl Ic Wq Wq (Nat.zero_le _) ?_;intro A3 c3 w2 Sr bm eD sj;have cJ:=cH.grown bm (fun e=>(gO gb e.symm).2 rfl);have BI:=hS.grown bm (fun e=>by have:=hlt fb (gO fb e.symm).1;omega);refine hK _ _ BI ?_;clear hK K;try simp only[g_S]
 refine rg_t 8 BI ?_;simp only[g_S];refine rg_t 9 BI ?_;simp only[g_S];have k8:=cJ.c0;have k9:=cJ.thaw 0;refine zj 10 rfl Wj rfl (fun K hK=>?_);go_simp;refine hK _ _ (BI.grown (yC w2 gb 0 (.slice A3 (l.length+1) c3)) (fun e=>by injection e with e;have:=hlt gb hF;omega)) ?_;clear hK K k8 k9;refine zD Wj ?_;go_wp2_with(with_reducible refine h_A ?_);go_meet;have H9:=yC w2 gb 0 (.slice A3 (l.length+1) c3);have gw:=xW (off:=0) cJ (.slice A3 (l.length+1) c3);have fB:=hlt gb hF;have tY:∀k,blk A=some k→k<w.heap.size:=fun k e=>hlt k (gO k e).1
 have po:=bz.size
 have mh:∀k,blk A3=some k→(F k∨wd.heap.size≤k)∧k≠gb:=fun k e=>by
  rcases eD with e2|e2
  ·rw[e2]at e;exact⟨.inl (gO k e).1,(gO k e).2⟩
  have:=e2 k e;exact⟨.inr this,by omega⟩
 have On:KeepF F wd _:=(KeepF.grown (F:=F) bm (fun g hg=>.inl (gO g hg).1)).trans (KeepF.grown (F:=F) H9 (fun g hg=>.inl MJ)) (fun g hg=>.inl hg);refine⟨A3,c3,?_,?_,?_,?_,?_,?_,?_,?_⟩
 ·rw[List.length_append];exact gw
 ·exact BI.grown H9 (sne Wq)
 ·exact(dv.grown bm (fun e=>by have:=tY rb e.symm;omega)).grown H9 (sne Wq)
 ·exact(mV.grown bm (fun e=>by have:=tY nb e.symm;omega)).grown H9 (sne Wq)
 ·rw[List.length_append];exact zk Sr H9 (fun k e e2=>by injection e2 with e2;exact(mh k e).2 e2.symm)
 ·exact zk (zk gA bm (fun k e e2=>by have:=tY k e2;have:=ig k e;omega)) H9 (fun k e e2=>by injection e2 with e2;have:=ig k e;omega)
 ·exact(KeepF.below bz).trans On (fun g hg=>.inl hg)
 intro k e;have h2:=gA.blk_lt (g:=k);rcases eD with e2|e2
 ·rw[e2]at e;have:=tY k e;exact⟨.inl (gO k e).1,(gO k e).2,by omega,by omega,by omega,fun e3=>by have:=ig k e3;omega⟩
 have:=e2 k e;exact⟨.inr Wq,by omega,by omega,by omega,by omega,fun e3=>by have:=(h2 e3).2;omega⟩):p:=h
theorem Z10_(h:p:=by
 first
 | done
 | have qq6i:=qq6i
 | rename_i h5
   have Db:∀(M:LS) (r:List UInt8),M.st≠0→LG M→M.told=[]→M.sent.length≤1000→r.length≤b.length+s.length→
     LG (LS.post ctlG (M,r)).1∧(LS.post ctlG (M,r)).2.length≤b.length+s.length∧(LS.post ctlG (M,r)).1.sent.length≤20000*(b.length+s.length+2)∧(LS.post ctlG (M,r)).1.told.length≤b.length+s.length+1:=by
    intro M r m0 hM mt ms hr;unfold LS.post;simp only;split
    ·exact⟨hM,hr,(show M.sent.length≤20000*(b.length+s.length+2) by omega),(show M.told.length≤b.length+s.length+1 by rw[mt];simp)⟩
    ·have gF:=vo r;have hLB:LB 1000 ((zu r).1.length+1) 0 M:=⟨by omega,hM.inv,hM.sz,hM.ch,m0,hM.st,by omega,by rw[mt];simp⟩;obtain⟨k',hk,hG⟩:=zaa (zu r).1 0 M hLB Wq (fun f hf=>(vp r f hf).1);simp only;unfold LS.frames;split
     ·have hc:=hG.close (by omega:k'<(zu r).1.length+1) 501 yt WJ;exact⟨hc.lg,by rw[List.length_drop];omega,Nat.le_trans hc.sent Wq,Nat.le_trans hc.told Wq⟩
     ·exact⟨hG.lg,by rw[List.length_drop];omega,Nat.le_trans hG.sent Wq,Nat.le_trans hG.told Wq⟩
 by_cases h0:L.st=0
 ·have hp:L.pre b s=LS.beginL L.core (b++s):=by unfold LS.pre;rw[if_pos h0];rfl
  rw[hp];unfold LS.beginL;split
  ·(first|(have qq6i:=qq6i;refine⟨⟨h.inv,h.sz,h.ch,by show(1:Nat)<256;decide⟩,rfl,?_,by simp⟩)|(refine Db _ _ zAe ⟨h.inv,h.sz,h.ch,by show(1:Nat)<256;decide⟩ rfl ?_ Wz));have:=XY L.sz;(have e:startB.length≤50:=by decide+kernel);(show([]++hdrB++ctlB L.sz startB).length≤1000);simp only[List.length_append,List.length_nil];have e2:hdrB.length=8:=rfl;omega
  first
  | have qq6i:=qq6i
    ·split
     ·exact⟨⟨h.inv,h.sz,h.ch,h.st⟩,rfl,by simp[LS.core],by simp⟩
     refine⟨⟨h.inv,h.sz,h.ch,by show(5:Nat)<256;decide⟩,rfl,?_,by simp⟩;show([]++hdrB).length≤1000
     decide
  | ·split
     ·(have e2:LS.post ctlG (L.core,b++s)=(L.core,b++s):=by unfold LS.post;rw[if_pos (.inl h0)]);rw[e2];exact⟨⟨h.inv,h.sz,h.ch,h.st⟩,by simp,by simp[LS.core],by simp[LS.core]⟩
     (have e2:∀x:List UInt8,LS.post ctlG ({L.core with st:=5,sent:=L.core.sent++hdrB},x)=({L.core with st:=5,sent:=L.core.sent++hdrB},x):=fun x=>by unfold LS.post;rw[if_pos (.inr rfl)]);rw[e2];refine⟨⟨h.inv,h.sz,h.ch,by show(5:Nat)<256;decide⟩,by simp,?_,by simp[LS.core]⟩;(show([]++hdrB).length≤_);have e2:hdrB.length=8:=rfl;simp only[List.nil_append];omega
 have hp:L.pre b s=(L.core,b++s):=by unfold LS.pre;rw[if_neg h0];rfl
 rw[hp]
 first|(have qq6i:=qq6i;exact⟨⟨h.inv,h.sz,h.ch,h.st⟩,rfl,by simp[LS.core],by simp⟩)|(exact Db _ _ h0 ⟨h.inv,h.sz,h.ch,h.st⟩ rfl (by simp[LS.core]) Wz)):p:=h
theorem Z4j_(h:p:=by
 go_wp2_with(with_reducible refine h_A ?_);refine ca.mono ?_;rintro e w4 ⟨A4,c4,rfl,Bv,Hn⟩;have IV:=Hc.size;have bS:=zi bW Hn;have bH:=Hc.trans (Hn.mono Hc.size);have ib:=Hn.size;clear x0 x1 x2 x3 ca bE bW Hc Hn;go_wp2_with(with_reducible refine h_B ?_);refine zc (yc slB rfl rfl rfl rfl Bv bS.rd (zM _) Wq Hj ib ?_);intro A7 c7 w7 dJ H9 gw;have Bq:=bH.grown H9 bH.size (fun g hg=>by have:=(Bv.blk_lt hg).1;omega);have e:(M++I).length=M.length+m:=by rw[List.length_append,SG.out]
 rw[←List.map_append,←e]at dJ;go_wp2_with(with_reducible refine h_A ?_);go_ret2;rw[HH.out]
 exact⟨A7,c7,by rw[e];rfl,Own.base_le dJ Wq,Bq⟩):p:=h
theorem Z11_(h:p:=by
 first|(have qq6j:=qq6j;have HH:Hid (RES=(([UInt8.ofNat cls,UInt8.ofNat code]++ [1,0])++be 2 fl)++I):=Lib.hid (by rw[Od.out];rfl))|(have HH:Hid (RES=(([UInt8.ofNat cls,UInt8.ofNat code]++ [1,1])++be 2 fl)++I):=Lib.hid (by rw[Od.out];rfl))
 clear Od
 first
 | have qq6j:=qq6j
   have hM:puts ([UInt8.ofNat cls,UInt8.ofNat code]++ [1,0]) fl 2=([UInt8.ofNat cls,UInt8.ofNat code]++ [1,0])++be 2 fl:=by unfold puts;rw[if_pos WJ];rfl
   have ca:=yR A5 4 c5 ([UInt8.ofNat cls,UInt8.ofNat code]++ [1,0]) fl 2 w5 ct.rd Wq Wq
 | have lV:Own w5 (mb+1) 5 1 A5 4 c5 (([UInt8.ofNat cls,UInt8.ofNat code]++ [1,0]).map u8v):=ct
   obtain⟨g5,rfl,P7,eP,fB,eC,Eb,bR⟩:=OwnB.at_k lV (k:=3) Wq;have G9:w5.cell? ⟨g5,3,none⟩=some (.int .u8 0):=eC;have Lx:OwnB (w5.setCell ⟨g5,3,none⟩ (.int .u8 1)) (mb+1) (some ⟨g5,0,none⟩) 4 c5 ([UInt8.ofNat cls,UInt8.ofNat code]++ [1,1]):=bR 1;have rN:=KM w5 ⟨g5,3,none⟩ (.int .u8 1);have dK:=bE.grown rN (by intro e;injection e with e;simp at e;omega);have Hn:=Hc.grown rN Hc.size (fun g hg=>by injection hg with hg;simp at hg;omega);have lh:blk (some (⟨g5,0,none⟩:Addr))=some g5:=rfl;have Bv:=zk bW rN (fun g hg e=>by injection e with e;simp at e;exact sF g hg (by rw[lh,e]));clear eC bR rN ct lV Hc bW;have x0:=bE.c0;have x1:=bE.c1;have x2:=bE.c2;have x3:=bE.c3;go_upto_region 21 with fail;clear x0 x1 x2 x3 bE G9 Eb;generalize(w5.setCell ⟨g5,3,none⟩ (.int .u8 1))=w6 at*;have ct:=Lx;have bE:=dK;have Hc:=Hn;have bW:=Bv;clear Lx dK Hn Bv;(have hM:puts ([UInt8.ofNat cls,UInt8.ofNat code]++ [1,1]) fl 2=([UInt8.ofNat cls,UInt8.ofNat code]++ [1,1])++be 2 fl:=by unfold puts;rw[if_pos WJ];rfl);have ca:=yR (some ⟨g5,0,none⟩) 4 c5 ([UInt8.ofNat cls,UInt8.ofNat code]++ [1,1]) fl 2 w6 ct.rd Wq Wq
 rw[hM]at ca
 first
 | have qq6j:=qq6j
   have Uk:(([UInt8.ofNat cls,UInt8.ofNat code]++ [1,0])++be 2 fl).length≤10:=by simp[be]
   generalize([UInt8.ofNat cls,UInt8.ofNat code]++ [1,0])++be 2 fl=M at*
 | have Uk:(([UInt8.ofNat cls,UInt8.ofNat code]++ [1,1])++be 2 fl).length≤10:=by simp[be]
   generalize([UInt8.ofNat cls,UInt8.ofNat code]++ [1,1])++be 2 fl=M at*
 clear hM;have x0:=bE.c0;have x1:=bE.c1;have x2:=bE.c2;have x3:=bE.c3
 exact Z4j_):p:=h
theorem Z65_(h:p:=by
 refine .inr ⟨1,by omega,by omega,?_⟩;unfold okB;rw[if_pos rfl]
 split<;>split<;>omega):p:=h
theorem Z12_(h:p:=by
 unfold xD u8N swN at*;generalize dd:yh l 0=b0 at*;first|(have qq6m:=qq6m;intro k dw Bk)|(skip)
 by_cases c1:b0<128
 first
 | have qq6m:=qq6m
   ·rw[if_pos c1]at h;injection h with h;omega
   rw[if_neg c1]at h hs
 | ·rw[if_pos c1]at h ⊢;injection h with h;exact .inl h
   rw[if_neg c1]at h ⊢
 by_cases c2:194≤b0∧b0≤223
 ·rw[if_pos c2]at h;injection h with h1 h;injection h with h2 h3
  subst h1 h2 h3;by_cases d:194≤b0∧b0≤223∧1<l.length∧128≤yh l 1∧yh l 1≤191
  first
  | have qq6m:=qq6m
    ·(obtain rfl:k=1:=by omega);unfold okB;rw[if_pos rfl];omega
    ·rw[if_neg d,if_neg Wq,if_neg Wq]at hs;omega
  | ·rw[if_pos d];exact .inl rfl
    ·rw[if_neg d,if_neg Wq,if_neg Wq];refine .inr ⟨rfl,?_⟩;by_cases e:l.length<2
     ·exact .inl e
     exact .inr ⟨1,by omega,by omega,by unfold okB;rw[if_pos rfl];omega⟩
 rw[if_neg c2]at h;first|(have qq6m:=qq6m;rw[if_neg Wq]at hs)|(rw[if_neg Wq])
 by_cases c3:224≤b0∧b0≤239
 ·rw[if_pos c3]at h;injection h with h1 h;injection h with h2 h3
  subst h1 h2 h3;by_cases d:224≤b0∧b0≤239∧2<l.length∧128≤yh l 1∧yh l 1≤191∧(b0=224→160≤yh l 1)∧(b0=237→yh l 1≤159)∧128≤yh l 2∧yh l 2≤191
  first
  | have qq6m:=qq6m
    ·(have:k=1∨k=2:=by omega);rcases this with rfl|rfl
     ·unfold okB;rw[if_pos rfl];split<;>split<;>omega
     unfold okB;rw[if_neg Wq];omega
    ·rw[if_neg d,if_neg Wq]at hs;omega
  | ·rw[if_pos d];exact .inl rfl
    ·rw[if_neg d,if_neg Wq];refine .inr ⟨rfl,?_⟩;by_cases e:l.length<3
     ·exact .inl e
     by_cases k2:128≤yh l 2∧yh l 2≤191
     ·exact Z65_
     exact .inr ⟨2,by omega,by omega,by unfold okB;rw[if_neg Wq];omega⟩
 rw[if_neg c3]at h;first|(have qq6m:=qq6m;rw[if_neg Wq]at hs)|(rw[if_neg Wq])
 by_cases c4:240≤b0∧b0≤244
 ·rw[if_pos c4]at h;injection h with h1 h;injection h with h2 h3
  subst h1 h2 h3;by_cases d:240≤b0∧b0≤244∧3<l.length∧128≤yh l 1∧yh l 1≤191∧(b0=240→144≤yh l 1)∧(b0=244→yh l 1≤143)∧128≤yh l 2∧yh l 2≤191∧128≤yh l 3∧yh l 3≤191
  first
  | have qq6m:=qq6m
    ·(have:k=1∨k=2∨k=3:=by omega);rcases this with rfl|rfl|rfl
     ·unfold okB;rw[if_pos rfl];split<;>split<;>omega
     ·unfold okB;rw[if_neg Wq];omega
     unfold okB;rw[if_neg Wq];omega
    ·rw[if_neg d]at hs;omega
  | ·rw[if_pos d];exact .inl rfl
    ·rw[if_neg d];refine .inr ⟨rfl,?_⟩;by_cases e:l.length<4
     ·exact .inl e
     by_cases k2:128≤yh l 2∧yh l 2≤191
     ·by_cases k3:128≤yh l 3∧yh l 3≤191
      ·exact Z65_
      exact .inr ⟨3,by omega,by omega,by unfold okB;rw[if_neg Wq];omega⟩
     exact .inr ⟨2,by omega,by omega,by unfold okB;rw[if_neg Wq];omega⟩
 rw[if_neg c4]at h;first|done|(have qq6m:=qq6m)|(rw[if_neg Wq])
 injection h with h
 first|(have qq6m:=qq6m;omega)|(exact .inl h)):p:=h
theorem Z13_(h:p:=by
 first
 | have qq6q:=qq6q
   have h1:=fun W (h:Rdr F W (.pointer (some ⟨o,0,none⟩)) (some vb) l false)=>yn h 4 Wq Wq
 | have qq6p:=qq6p
   have h1:=fun W (h:Rdr F W (.pointer (some ⟨o,0,none⟩)) (some vb) l false)=>yn h 2 Wq Wq
 | have qq6o:=qq6o
   have h1:=fun W (h:Rdr F W (.pointer (some ⟨o,0,none⟩)) (some vb) l false)=>yn h 1 Wq Wq
 | have qq6n:=qq6n
   have h1:=fun W (h:Rdr F W (.pointer (some ⟨o,0,none⟩)) (some vb) l false)=>qF h 1 255 Wq Wq Wq Wq
 | have h1:=fun W (h:Rdr F W (.pointer (some ⟨o,0,none⟩)) (some vb) l false)=>qF h 2 65535 Wq Wq Wq Wq
 rw[←hT]at h1;clear hT;have bu:=KP.refl B ab vb W;first|(have qq6q:=qq6q;go_enter func155,ntmps155)|(have qq6p:=qq6p;go_enter func154,ntmps154)|(have qq6o:=qq6o;go_enter func153,ntmps153)|(have qq6n:=qq6n;go_enter func156,ntmps156)|(go_enter func158,ntmps158)
 go_upto_region 0 with fail;refine zt (fun W:World=>Box W cb 198 #[.pointer (some ⟨ab,0,none⟩)]) Wj ?_;replace Bs:Box W.drew cb 198 #[.pointer (some ⟨ab,0,none⟩)]:=Bs;replace ha:Box W.drew ab 80 #[.bool is,.int .u64 0,.string ⟨#[]⟩,.int .u32 0,.string ⟨#[]⟩,.string ⟨#[]⟩,.slice none 0 0,.int .u8 0,.int .u64 0,.string ⟨#[]⟩,.slice none 0 0,.slice none 0 0]:=ha;replace hr:=hr.drew;replace bu:=bu.drew;have h1:=h1 _ hr;generalize W.drew=wd at*;refine ze 0 (v:=?_) rfl Wj Wj Wj Bs rfl ?_ ?_;rotate_left
 ·intro wS He;have y0:=He.cell (j:=0) rfl;go_simp;(with_reducible rfl)
 simp only[List.getElem_toArray,List.getElem_cons_zero,Act.put,List.setIfInBounds_toArray,List.set_cons_zero,List.set_cons_succ];refine rg_t 1 Bs ?_;simp only[g_S];refine zj 2 rfl Wj rfl (fun K hK=>?_);go_simp;refine h1.mono ?_;rintro e w2 ⟨rfl,cE,Hm⟩;have dW:=Bs.grown Hm (sne Wq);have db:=ha.grown Hm (sne Wq);have cP:=bu.grown eu Hm nX;clear h1 hr Bs ha bu Hm;refine hK _ _ dW ?_;clear hK K;try simp only[g_S]
 refine rg_t 3 dW ?_;simp only[g_S];refine rg_t 4 dW ?_;simp only[g_S];refine zj 5 rfl Wj rfl (fun K hK=>?_)
 first
 | have qq6q:=qq6q
   refine zK (g:=ab) (j:=1) (v:=.int .u64 (T.1:Int)) (vs:=[.int .u64 (T.1:Int)]) rfl rfl rfl db rfl Wj Wz wX #[.bool is,.int .u64 (T.1:Int),.string ⟨#[]⟩,.int .u32 0,.string ⟨#[]⟩,.string ⟨#[]⟩,.slice none 0 0,.int .u8 0,.int .u64 0,.string ⟨#[]⟩,.slice none 0 0,.slice none 0 0] Wz ?_
 | have qq6p:=qq6p
   refine zK (g:=ab) (j:=1) (v:=.int .u64 (T.1:Int)) (vs:=[.int .u64 (T.1:Int)]) rfl rfl rfl db rfl Wj Wz wX #[.bool is,.int .u64 (T.1:Int),.string ⟨#[]⟩,.int .u32 0,.string ⟨#[]⟩,.string ⟨#[]⟩,.slice none 0 0,.int .u8 0,.int .u64 0,.string ⟨#[]⟩,.slice none 0 0,.slice none 0 0] Wz ?_
 | have qq6o:=qq6o
   refine zK (g:=ab) (j:=1) (v:=.int .u64 (T.1:Int)) (vs:=[.int .u64 (T.1:Int)]) rfl rfl rfl db rfl Wj Wz wX #[.bool is,.int .u64 (T.1:Int),.string ⟨#[]⟩,.int .u32 0,.string ⟨#[]⟩,.string ⟨#[]⟩,.slice none 0 0,.int .u8 0,.int .u64 0,.string ⟨#[]⟩,.slice none 0 0,.slice none 0 0] Wz ?_
 | refine zK (g:=ab) (j:=2) (v:=.string (str T.1)) (vs:=[.string (str T.1)]) rfl rfl rfl db rfl Wj Wz wX #[.bool is,.int .u64 0,.string (str T.1),.int .u32 0,.string ⟨#[]⟩,.string ⟨#[]⟩,.slice none 0 0,.int .u8 0,.int .u64 0,.string ⟨#[]⟩,.slice none 0 0,.slice none 0 0] Wz ?_
 intro w3 mp H7 _;have nB:=dW.grown H7 (sne Wq);have cl:=cE.kept H7 (fun g hg bG=>by injection hg with hg;subst hg;exact iO bG);have cy:=cP.grown eu H7 Uj;refine hK _ _ nB ?_;clear hK K;refine zD Wj ?_;go_wp2_with(with_reducible refine h_A ?_);go_end0
 exact⟨rfl,cl,mp,cy⟩):p:=h
theorem Z14_(h:p:=by
 obtain⟨K1,j1,K2,j2⟩:=h;have BF:=fun{i:Nat} (hi:i<v.list.length)=>hv.elem hi
 simp only at BF ⊢;obtain⟨N,hN⟩:∃N,N=v.list.length:=⟨_,rfl⟩
 have GJ:N≤140737488351232:=by rw[hN];exact hv.bounds.2.2.2.2.2
 rw[←hN];have HN:=Lib.hid hN;clear hN hv;have G4:=Lib.hid bD;clear bD;go_enter func183,ntmps183;go_wp2_with(with_reducible refine h_A ?_);go_loopw [8] (fun s8 wr=>∃(i:Nat),i≤N∧s8= .int .i64 i∧Hid ((v.list.drop i).any p=v.list.any p)∧Below w.heap.size w wr) (fun s8 _=>N-(RowKit.intOf s8).toNat)
 case atStart=>exact⟨0,by omega,rfl,Lib.hid rfl,Below.refl _ _⟩
 obtain⟨i,hi,rfl,HC,hB⟩:=hrel;by_cases hlt:i<N
 ·have g1:(i:Int)<(N:Int):=by omega
  have BE:i<v.list.length:=by rw[←HN.out];exact hlt
  obtain⟨b,off,hx,rfl,ep,HX⟩:=BF BE;obtain⟨k0,k1,k2,k3,k4⟩:=HX wr hB;have HD:Hid ((v.list.drop i).any p=(p v.list[i]||(v.list.drop (i+1)).any p)):=Lib.hid (by rw[List.drop_eq_getElem_cons BE,List.any_cons]);have bP:=G4.out _ (List.getElem_mem BE) hx wr hB (ep.up hB);clear HX BF ep;generalize v.list[i]=x at*;unfold vlV at bP;simp only[List.append_toArray,List.cons_append,List.nil_append]at bP;go_wp2_with(with_reducible refine h_A ?_);refine bP.mono ?_;rintro e w2 ⟨rfl,Hc⟩;have iU:=hB.trans (Hc.mono hB.size);clear bP k0 k1 k2 k3 k4
  cases hp:p x
  ·have cM:Hid ((v.list.drop (i+1)).any p=v.list.any p):=Lib.hid Nq;go_wp2_with(with_reducible refine h_A ?_);exact⟨⟨i+1,by omega,by go_num,cM,iU⟩,by simp[RowKit.intOf];omega⟩
  have cM:Hid (v.list.any p=true):=Lib.hid Nq;go_wp2_with(with_reducible refine h_A ?_);go_ret;exact⟨⟨i,rfl,by rw[cM.out];simp⟩,iU⟩
 have HQ:Hid (v.list.any p=false):=Lib.hid (by rw[←HC.out,List.drop_eq_nil_of_le MX];rfl);have g1:¬(i:Int)<(N:Int):=by omega
 clear BF;go_wp2_with(with_reducible refine h_A ?_);go_ret
 exact⟨⟨_,rfl,by rw[HQ.out];rfl⟩,hB⟩):p:=h
theorem Z4l_(h:p:=by
 have HV:Hid (xP ⟨ch,tr,l⟩=70):=Lib.hid (by
  have:xn 0 none l=false:=by
   rw[mY.out];(try rw[HP.out]);simp;try omega
  simp[xP,asOk,this])
 go_upto_region 5 with fail;try simp only[Act.put]
 go_quiet(fail);go_wp2_with(with_reducible refine h_B ?_);go_ret
 exact⟨by rw[HV.out];rfl,za Hh _⟩):p:=h
theorem Z4f_(h:p:=by
 first|(have qqlb:=qqlb;have d1:decide ((3:Int)<(s.ty:Int))=true:=by simp;omega)|(have d3:(16384:Int)-(m:Int)<(s.load.length:Int):=by omega)
 exact Z4l_):p:=h
theorem Z15_(h:p:=by
 first
 | have qq6x:=qq6x
   by_cases c3:16384<m+s.load.length
 | obtain⟨j,rfl⟩:∃j,i=j+1:=⟨i-1,by omega⟩
   obtain⟨b',off',Ax,_,UM,Ud⟩:=BF (i:=j) Wq;(obtain⟨rfl,rfl⟩:b=b'∧off=off':=by simpa using Ax);have p0:w3.cell? ⟨b,off+j*2,none⟩=some (.int .u8 (l[j].ty:Int)):=(Hh.cell (p:=⟨b,off+j*2,none⟩) gc).trans (Ud 0 _ rfl);have ca:=CY.out _ (List.getElem_mem UM);have HP:Hid (vy l (j+1)=some l[j].ty):=Lib.hid (by simp[vy,UM]);have hwj:IntKind.i64.wrap (j:Int)=(j:Int):=IntWalk.i64_in _ ⟨by omega,by omega⟩;(have hj0:(0:Int)<(j:Int)+1:=by omega);(have hj1:(j:Int)<(n:Int):=by omega);clear Ud Ax;generalize l[j].ty=pt at*;by_cases c2:s.ty≤pt
 ·first
  | have qq6x:=qq6x
    have d3:(16384:Int)-(m:Int)<(s.load.length:Int):=by omega
  | have d2:(s.ty:Int)≤(pt:Int):=by omega
    have HE:=Lib.hid c2;clear c2
  exact Z4l_
 first
 | have qq6x:=qq6x
   (have d3:decide ((16384:Int)-(m:Int)<(s.load.length:Int))=false:=by simp;omega);have HV:Hid (xn 0 none l=xn (m+s.load.length) (vy l 1) (l.drop 1)):=Lib.hid (by rw[mY.out];simp[vy];intro _;omega);go_upto_region 5 with fail;(try simp only[Act.put]);go_quiet(fail);have Wl:=dL.c1;go_wp2_with(with_reducible refine h_B ?_)
   exact⟨⟨0+1,m+s.load.length,by omega,by omega,by go_num,by go_num,HV,bU,za Hh _⟩,by simp[RowKit.intOf];omega⟩
 | have d2:decide ((s.ty:Int)≤(pt:Int))=false:=by simp;omega
   by_cases c3:16384<m+s.load.length
   ·exact Z4f_
   ·(have d3:decide ((16384:Int)-(m:Int)<(s.load.length:Int))=false:=by simp;omega);have HV:Hid (xn 0 none l=xn (m+s.load.length) (vy l (j+1+1)) (l.drop (j+1+1))):=Lib.hid (by rw[mY.out,HP.out];simp;intro _;omega);go_upto_region 5 with fail;(try simp only[Act.put]);go_quiet(fail);have Wl:=dL.c1;go_wp2_with(with_reducible refine h_B ?_)
    exact⟨⟨(j+1)+1,m+s.load.length,by omega,by omega,by go_num,by go_num,HV,bU,za Hh _⟩,by simp[RowKit.intOf];omega⟩):p:=h
theorem Z16_(h:p:=by
 first|done|(have qq73:=qq73)|(have qq72:=qq72)|(have has:=zh v.s)
 subst hk
 first
 | have qq73:=qq73
   generalize dq:(((50:Nat):Int))=k at*
   obtain rfl:k=50:=by rw[←dq];rfl
 | have qq72:=qq72
   generalize dq:(((49:Nat):Int))=k at*
   obtain rfl:k=49:=by rw[←dq];rfl
 | have qq71:=qq71
   generalize dq:(((149:Nat):Int))=k at*
   obtain rfl:k=149:=by rw[←dq];rfl
 | generalize dq:(((160:Nat):Int))=k at*
   obtain rfl:k=160:=by rw[←dq];rfl
 clear dq;have c0:=hX.c0;have c1:=hX.c1;have c2:=hX.c2;have c3:=hX.c3;have c4:=hX.c4;go_enter func118,ntmps118;go_upto_region 1 with fail;rw[←Hg,←Hi];clear Hg Hi;go_upto_region 2 with fail;have Hk:=hX.below Hc;first|(have qq73:=qq73;generalize(w1.alloc (.cells #[.int .u8 50] 5))=w2 at*)|(have qq72:=qq72;generalize(w1.alloc (.cells #[.int .u8 49] 5))=w2 at*)|(have qq71:=qq71;generalize(w1.alloc (.cells #[.int .u8 149] 5))=w2 at*)|(generalize(w1.alloc (.cells #[.int .u8 160] 5))=w2 at*)
 have hB:=Ha.trans (Hc.mono BW);have fj:=dF.up Hc;have cj:=Hc.size;generalize cT:w1.heap.size=lb at*;have wP:Hid (xb≠lb):=Lib.hid mX;have DQ:=Lib.hid cT;clear c0 c1 c2 c3 c4 hX dF cT Ha;have c0:=Hk.c0;have c1:=Hk.c1;have c2:=Hk.c2;have c3:=Hk.c3;have c4:=Hk.c4;go_wp2_with(with_reducible refine h_A ?_)
 first
 | have qq73:=qq73
   (have iv: [UInt8.ofNat 50]++be 8 v.n=R:=by rw[HR.out];simp[yu]);have lP:R.length=1+8:=by rw[←iv,List.length_append,zr];rfl
   have hp:=ye v.n 8 w2 gZ Wq
 | have qq72:=qq72
   (have iv: [UInt8.ofNat 49]++be 8 v.n=R:=by rw[HR.out];simp[yu]);have lP:R.length=1+8:=by rw[←iv,List.length_append,zr];rfl
   have hp:=ye v.n 8 w2 gZ Wq
 | have qq71:=qq71
   (have iv:([UInt8.ofNat 149]++be 2 v.s.length)++v.s=R:=by rw[HR.out];simp[yu]);have iV:Hid (R.length=1+2+v.s.length):=Lib.hid (by rw[←iv,List.length_append,List.length_append,zr];rfl)
   have hp:=ye v.s.length 2 w2 Wq Wq
 | have iv:([UInt8.ofNat 160]++be 4 v.s.length)++v.s=R:=by rw[HR.out];simp[yu]
   have iV:Hid (R.length=1+4+v.s.length):=Lib.hid (by rw[←iv,List.length_append,List.length_append,zr];rfl);have hp:=ye v.s.length 4 w2 Wq Wq
 refine hp.mono ?_;rintro e w3 ⟨A3,RD,rfl,Bx,Hh⟩;have i5:=zi b7 Hh;have ee:=Hh.size;first|done|(have qq73:=qq73)|(have qq72:=qq72)|(have bU:=Hk.below Hh)
 clear hp c0 c1 c2 c3 c4;go_wp2_with(with_reducible refine h_A ?_);refine zc (yc slB rfl rfl rfl rfl i5 Bx.rd (zM _) Wq Hj Wq ?_);intro A4 q4 w4 Bv Bb _;have bI:=(hB.trans (Hh.mono hB.size)).grown Bb (Nat.le_trans hB.size ee) mQ
 first
 | have qq73:=qq73
   rw[←List.map_append,iv]at Bv
   clear iv
 | have qq72:=qq72
   rw[←List.map_append,iv]at Bv
   clear iv
 | have Bg:=bU.grown Bb (by intro e;have h9:some xb=some lb:=e;injection h9 with h9;exact wP.out h9)
   have OB:=Bb.size;rw[←List.map_append]at Bv;have c0:=Bg.c0;have c1:=Bg.c1;have c2:=Bg.c2;have c3:=Bg.c3;have c4:=Bg.c4;go_wp2_with(with_reducible refine h_A ?_);refine zc (jC slB underlying9 rfl rfl rfl rfl Bv Wq Wq Wq ?_);intro A5 q5 w5 ct bc;have iU:=bI.grown bc bI.size (fun g hg=>by have:=(Bv.blk_lt hg).1;omega);rw[←List.map_append,iv]at ct;clear iv c0 c1 c2 c3 c4
 go_wp2_with(with_reducible refine h_A ?_);go_ret
 first|(have qq73:=qq73;exact⟨A4,q4,by rw[lP];rfl,by rw[lP];exact Bv.base_le BW,bI⟩)|(have qq72:=qq72;exact⟨A4,q4,by rw[lP];rfl,by rw[lP];exact Bv.base_le BW,bI⟩)|(exact⟨A5,q5,by rw[iV.out];rfl,by rw[iV.out];exact ct.base_le BW,iU⟩)):p:=h
theorem Z17_(h:p:=by
 first
 | have qq75:=qq75
   by_cases Gf:n+l.length≤140737488355328
   ·exact qj hT hu hw ho hs hx Hl Gf Hf h
 | have o9:=Hl
   rcases Hl.2 with⟨hv,rfl⟩|⟨g,cap,cur,hv,eP,hg,iC,rR,fZ,gV⟩
   ·have wu:xs=[]:=List.eq_nil_of_length_eq_zero (by have:=o9.1;simpa using this);subst wu;(injection hv with h1 h2 h3);subst h1 h3;(refine qj hT hu hw ho hs hx (base:=w.heap.size) (Own.none_ w w.heap.size e 1) Wq (Nat.le_refl _) fun A2 c2 w' h1 h2=>?_);exact h A2 c2 w' (h1.base_le Hf) h2 (.inr fun g hg=>(h1.blk_lt hg).1)
 obtain⟨i,hi,hz,BW,dX⟩:=hT.i;have d9:xs.length=n:=by simpa using Hl.1
 have e1:Lib.strCells (str l)=l.map u8v:=by
  unfold Lib.strCells;simp[str,u8v]
 first
 | have qq75:=qq75
   have o9:=Hl;rcases Hl.2 with⟨hv,rfl⟩|⟨g,cap,cur,hv,eP,hg,iC,rR,fZ,gV⟩
   ·omega
 | skip
 injection hv with h1 h2 h3
 subst h1 h3;rw[Nat.mul_one]at fZ gV;refine BigFrame.wpList_want hw fun K hK=>?_
 by_cases fP:n+l.length≤c
 ·have bv:=Lib.run_append_room_string (P:=P) w t u o.type e i hT.u hu hi BW g n c cur hg (str l) (by rw[zh];exact fP) (by rw[zh];omega);rw[e1,zh]at bv;unfold Oper.wp execOp;simp only[ho,resolve,invoke,builtin,Sem.run_bind,Sem.run_pure,Result.andThen_ok,List.map_toArray,List.map_cons,List.map_nil,hs,hx,bv];first|(have qq75:=qq75;exact hK _ _ (h _ _ _ (jV hg fZ gV d9 l fP rR eP) ⟨rfl,rfl,rfl,by simp,fun k _ hk=>setRow_other w g k _ (fun e=>hk (by simp[blk,e]))⟩))|(exact hK _ _ (h _ _ _ (jV hg fZ gV d9 l fP rR eP) ⟨rfl,rfl,rfl,by simp,fun k _ hk=>setRow_other w g k _ (fun e=>hk (by simp[blk,e]))⟩ (.inl rfl)))
 have ul:∀j u,xs[j]?=some u→w.cell? ((⟨g,0,none⟩:Addr).add j)=some u:=World.ownsRow.cells o9 (g:=g) rfl
 have bv:=Lib.run_append_grow_string (P:=P) w t u o.type e i (.int .u8 0) hT.u hu hi hz ⟨g,0,none⟩ n c xs (by rw[BW];simpa using d9) ul (str l) (by rw[zh];omega) (by rw[zh];omega)
  (by rw[dX,zh];exact growslice_fits_wide Wq Wq)
 rw[e1,zh]at bv;unfold Oper.wp execOp;simp only[ho,resolve,invoke,builtin,Sem.run_bind,Sem.run_pure,Result.andThen_ok,List.map_toArray,List.map_cons,List.map_nil,hs,hx,bv]
 first
 | have qq75:=qq75
   exact hK _ _ (h _ _ _ (jo d9 l _ (grownCap_ge _ _ _ _) (grownCap_le_maxLen _ _ _ _ (by simp only[maxLen];omega)) Hf) (World.grownBy.trans (b:=w.drew) ⟨rfl,rfl,rfl,Nat.le_refl _,fun _ _ _=>rfl⟩ (World.grownBy_alloc w.drew _ _)))
 | exact hK _ _ (h _ _ _ (jo d9 l _ (grownCap_ge _ _ _ _) (grownCap_le_maxLen _ _ _ _ (by simp only[maxLen];omega)) Hf) (World.grownBy.trans (b:=w.drew) ⟨rfl,rfl,rfl,Nat.le_refl _,fun _ _ _=>rfl⟩ (World.grownBy_alloc w.drew _ _)) (.inr fun g' Ho=>by injection Ho with Ho;exact Nat.le_of_eq Ho))):p:=h
theorem Z60_(h:p:=by
 rintro e w1 ⟨rfl,h1,bM⟩;go_wp2_with(with_reducible refine h_A ?_);go_ret
 exact⟨rfl,h1,bM⟩):p:=h
theorem Z18_(h:p:=by
 by_cases hw:qK x=true
 ·rw[qG hw]
  have fC:(xe l bad x).1.length≤8:=by
   have:=j7 hw;unfold xe;split
   ·simp
   simp only[List.length_take];omega
  first|(have qq7b:=qq7b;have hT:=kj h x hx pp)|(have hT:=XO h x hx pp)
  generalize xe l bad x=r at hT fC ⊢;obtain⟨o,l',bad'⟩:=r;simp only at hT fC ⊢;first|(have qq7b:=qq7b;go_enter func54,ntmps54)|(go_enter func137,ntmps137)
  go_wp2_with(with_reducible refine h_A ?_);first|(have qq7b:=qq7b;refine(qo x w).mono ?_)|(refine(vL x w).mono ?_)
  rw[hw];rintro e w' ⟨rfl,rfl⟩;go_wp2_with(with_reducible refine h_A ?_);refine hT.mono ?_;rintro e w1 ⟨A2,c2,rfl,ho,hR,hg⟩;go_wp2_with(with_reducible refine h_A ?_);first|(have qq7b:=qq7b;go_loopw [17,5] (fun i s wr=>wr=w1∧∃k:Nat,k≤o.length∧i= .int .i64 k∧s= .int .u64 (unbe (o.take k):Nat)) (fun i _ _=>o.length-(intOf i).toNat))|(go_loopw [7,6] (fun i s wr=>wr=w1∧∃k:Nat,k≤o.length∧i= .int .i64 k∧s= .int .u64 (unbe (o.take k):Nat)) (fun i _ _=>o.length-(intOf i).toNat))
  case atStart=>exact⟨rfl,0,by omega,rfl,by simp[kR]⟩
  obtain⟨rfl,k,hk,rfl,rfl⟩:=hrel;by_cases hlt:k<o.length
  ·obtain⟨b,off,rfl,dP,bK,eC⟩:=RdB.at_k ho.rd (k:=k) hlt;have dX:=o[k].toNat_lt;first|(have qq7b:=qq7b;go_wp2_with(with_reducible refine h_A ?_))|(skip)
   have tF:unbe (o.take (k+1))=256*unbe (o.take k)+o[k].toNat:=by
    rw[List.take_succ_eq_append_getElem bK];exact Xe _ _
   have i4:unbe (o.take k)<72057594037927936:=by
    refine Nat.lt_of_lt_of_le (vw _) ?_;refine Nat.le_trans (Nat.pow_le_pow_right Wq (show(o.take k).length≤7 by rw[List.length_take];omega)) WJ
   first
   | have qq7b:=qq7b
     exact⟨⟨trivial,k+1,by omega,by go_num,by rw[zcv _ _ i4 dX,tF]⟩,by simp[intOf];omega⟩
   | have Ig:=Lib.hid tF
     clear tF;generalize unbe (o.take k)=s0 at i4 Ig ⊢;go_wp2_with(with_reducible refine h_A ?_);exact⟨⟨trivial,k+1,by omega,by go_num,by rw[Ig.out];simp⟩,by simp[intOf];omega⟩
  obtain rfl:k=o.length:=by omega
  rw[List.take_length];go_wp2_with(with_reducible refine h_A ?_);go_ret;exact⟨rfl,hR,hg⟩
 have nu:qK x=false:=by simpa using hw
 rw[Qc nu];first|(have qq7b:=qq7b;go_enter func54,ntmps54)|(go_enter func137,ntmps137)
 go_wp2_with(with_reducible refine h_A ?_);first|(have qq7b:=qq7b;refine(qo x w).mono ?_)|(refine(vL x w).mono ?_)
 rw[nu];rintro e w' ⟨rfl,rfl⟩;go_wp2_with(with_reducible refine h_A ?_);first|(have qq7b:=qq7b;refine(xk h).mono ?_)|(refine(xN h).mono ?_)
 exact Z60_):p:=h
theorem Z19_(h:p:=by
 first|(have qq7g:=qq7g;have k0:=Be.c2)|(skip)
 go_simp
 first
 | have qq7g:=qq7g
   refine hK _ _ hS ?_
   clear hK K k0
 | refine hK _ _ ((((Below.refl wd.heap.size wd).alloc (Nat.le_refl _) _).cell (p:=⟨b,off+k*8+4,none⟩) (show b<wd.heap.size by omega)).trans hS) ?_
   clear hK K
 try simp only[g_S]
 first
 | have qq7g:=qq7g
   refine zj 8 rfl Wj rfl (fun K hK=>?_)
 | have k0:=(Be.alloc (.cells #[.int .u8 (x.ty:Int),.string ⟨#[]⟩] 84)).c2
   refine zj 1 rfl Wj rfl (fun K hK=>?_)
 go_simp;refine hK _ _ ((((Below.refl wd.heap.size wd).alloc (Nat.le_refl _) _).cell (p:=⟨b,off+k*8+4,none⟩) (show b<wd.heap.size by omega)).trans hS) ?_;first|(have qq7g:=qq7g;clear hK K)|(clear hK K k0)
 try simp only[g_S]
 have IU:=hBa.lt;refine zj 9 rfl Wj rfl (fun K hK=>?_);refine jR (W:=wd) xd slG underlying40 rfl rfl rfl rfl (⟨x.ty,[]⟩:Sg) rfl dS Wq Wq pM.1 ?_;intro A6 c6 w9 dt du rM uF;have BI:=(uF.cell (p:=⟨b,off+k*8+4,none⟩) dP).trans hS;have gu:=Be.grown du (fun e=>by have:=tk ab e.symm;omega);have RK:=pM.1;have OJ:=uF.size;refine hK _ _ BI ?_;clear hK K;try simp only[g_S]
 refine rg_t 10 BI ?_;simp only[g_S];refine zj 11 rfl Wj rfl (fun K hK=>?_);refine zK (g:=ab) (j:=2) (v:=.slice A6 (L0.length+1) c6) (vs:=[.slice A6 (L0.length+1) c6]) rfl rfl rfl gu rfl Wj Wz WZ #[.int .u16 (f.chan:Int),.int .u8 (f.track:Int),.slice A6 (L0.length+1) c6] Wz ?_;intro wx cU sI Mn;clear Mn;refine hK _ _ ((((Below.refl w6.heap.size w9).grown sI Wq Wx).cell (p:=⟨b,off+k*8+4,none⟩) dI).trans BI) ?_;clear hK K;try simp only[g_S]
 refine zD Wj ?_;go_wp2_with(with_reducible refine h_A ?_);go_meet;refine⟨A6,c6,cU,?_,?_⟩
 ·rw[i9.out];exact zk dt sI (fun g e e2=>by have:=(dt.blk_lt e).1;injection e2 with e2;omega)
 exact(pM.trans (.grown (F:=fun g=>w7.heap.size≤g) du (fun g hg=>.inl (tk g hg))) (fun g hg=>.inr hg)).trans (.grown (F:=fun g=>g=ab) sI (fun g hg=>.inl Hx)) (fun g hg=>.inl hg)):p:=h
theorem Z48_(h:p:=by
 first
 | cases hb;done
 |obtain⟨h1,h2⟩:=fN hk
  refine⟨h1,fun k hk'=>?_⟩;rw[qt,Bool.and_eq_true,List.all_eq_true]at h2;have h3:=h2.1 _ hk';unfold jf at h3;simp only[Bool.and_eq_true,decide_eq_true_eq]at h3
  exact h3.1.2):p:=h
theorem Z1a_(h:p:=by
 rw[hk]at hx f1 f2 f3 f4 f5 f6 dI ⊢;have a3:=List.length_eq_zero_iff.1 (f3 WJ WJ);have a4:=f6 WJ WJ WJ WJ
 first
 | have qq7j:=qq7j
   rw[show yu 168 x.n x.s (innB x)=be 4 (innB x).length++innB x by simp[yu]]at dI ⊢
   have oJ:innB x=be 4 x.list.length++yy true x.keys x.list:=by rw[innB,hk];rfl
 | rw[show yu 169 x.n x.s (innB x)=be 4 (innB x).length++innB x by simp[yu]]at dI ⊢
   have oJ:innB x=be 4 x.list.length++yy false x.keys x.list:=by rw[innB,hk];rfl
 have BE:(innB x).length<256 ^ 4:=by rw[List.length_cons,List.length_append,zr]at dI;omega
 rw[Cg]at hc gF ⊢;have m8:((n:Int)-1)=((n-1:Nat):Int):=by omega
 rw[m8]at hc gF ⊢;have fD:=(vi _ _ hc).1;have e1:=qZ 4 (.inr (.inr (.inl rfl))) (innB x).length BE (innB x++rest);first|(have qq7j:=qq7j;have e2:=qZ 4 (.inr (.inr (.inl rfl))) x.list.length Wq (yy true x.keys x.list++rest))|(have e2:=qZ 4 (.inr (.inr (.inl rfl))) x.list.length Wq (yy false x.keys x.list++rest))
 rw[show((4:Nat):Int)=4 from rfl]at e1 e2
 first
 | have qq7j:=qq7j
   have eI:true=true→x.keys.length=x.list.length∧∀k∈x.keys,k.length≤255:=fun hb=>by
    exact Z48_
   have Pd:true=false→x.keys=[]:=fun hb=>by
    first
    | cases hb;done
    | exact List.length_eq_zero_iff.1 (f1 WJ)
   have e3:=Jn true x.list x.keys (n-1) rest GM eI Pd Wq hc
 | have eI:false=true→x.keys.length=x.list.length∧∀k∈x.keys,k.length≤255:=fun hb=>by
    exact Z48_
   have Pd:false=false→x.keys=[]:=fun hb=>by
    first
    | cases hb;done
    | exact List.length_eq_zero_iff.1 (f1 WJ)
   have e3:=Jn false x.list x.keys (n-1) rest GM eI Pd Wq hc
 rw[if_neg WJ,if_neg WJ,if_neg WJ,if_neg WJ,if_neg WJ,if_pos WJ,List.append_assoc,e1];simp only;first|(have qq7j:=qq7j;rw[show innB x++rest=be 4 x.list.length++(yy true x.keys x.list++rest) by rw[oJ,List.append_assoc],e2])|(rw[show innB x++rest=be 4 x.list.length++(yy false x.keys x.list++rest) by rw[oJ,List.append_assoc],e2])
 simp only
 rw[if_neg (by
  rintro(h|h|h)
  ·cases h
  ·rw[oJ]at h;simp at h;omega
  ·omega)]
 first|(have qq7j:=qq7j;first|rw[decide_true,e3]|rw[decide_false,e3]|rw[show(decide (168=168))=true from rfl,e3])|(first|rw[decide_true,e3]|rw[decide_false,e3]|rw[show(decide (169=168))=false from rfl,e3])
 simp only;rw[if_pos (by rw[oJ];simp[List.length_append];omega)];rw[a3,a4]at hx
 rw[←hx]):p:=h
theorem Z1b_(h:p:=by
 obtain⟨xb,w1,Hg,Hi,hX,Ha⟩:=zg w #[.int .u8 (v.kind:Int),.int .u64 (v.n:Int),.string (str v.s),.slice h.A1 v.keys.length h.c1,.slice h.A2 v.list.length h.c2] 78;have dF:=hv.up Ha;first|(have qq7k:=qq7k;have Ba:=ZW v h w1 dF)|(have Ba:=Yj v h w1 dF (hT.on Ha))
 have BW:=Ha.size;have c0:=hX.c0;have c1:=hX.c1;have c2:=hX.c2;have c3:=hX.c3;have c4:=hX.c4;by_cases he:errV v=0
 ·obtain⟨hc,hm⟩:=j0 he;have bQ:=ZH 200 hm hc;have bD:=jF v 200;first|(have qq7k:=qq7k;have hp:=fun W (hW:Below w1.heap.size w1 W)=>XR v h W (dF.up hW) hm Wq)|(have hp:=fun W (hW:Below w1.heap.size w1 W)=>za3 v h W.heap.size none 0 0 [] W (dF.up hW) (Own.none_ _ _ _ _) (Nat.le_refl _) hm Wq)
  rw[show vlP v=vlB v by unfold vlP;rw[if_pos he]];rw[he]at Ba ⊢
  first
  | have qq7k:=qq7k
    unfold J6 at hp
  | unfold VPut at hp
    rw[List.nil_append]at hp
  generalize vlB v=L at*;have HP:=Lib.hid hp;first|(have qq7k:=qq7k;clear he hc hm bQ bD hp hv dF)|(clear he hc hm bQ bD hp hv hT dF)
  unfold vlV at*;first|(have qq7k:=qq7k;go_enter func98,ntmps98)|(go_enter func105,ntmps105)
  go_upto_region 1 with fail;rw[←Hg,←Hi];clear Hg Hi;go_wp2_with(with_reducible refine h_A ?_);refine Ba.mono ?_;rintro e w2 ⟨rfl,Hc⟩;have Hk:=hX.below Hc;have hp:=HP.out w2 Hc;clear HP c0 c1 c2 c3 c4 Ba;have c0:=Hk.c0;have c1:=Hk.c1;have c2:=Hk.c2;have c3:=Hk.c3;have c4:=Hk.c4;go_wp2_with(with_reducible refine h_A ?_);refine hp.mono ?_;first|(have qq7k:=qq7k;(rintro e w3 ⟨A2,P6,rfl,ho,Hh⟩))|((rintro e w3 ⟨A2,P6,rfl,ho,_,Hh⟩))
  go_wp2_with(with_reducible refine h_A ?_);go_ret2;exact⟨A2,P6,rfl,ho.base_le (Nat.le_trans BW Hc.size),Ha.trans ((Hc.trans (Hh.mono Hc.size)).mono BW)⟩
 rw[show vlP v=[] by unfold vlP;rw[if_neg he]];generalize errV v=r at*;have g1:(r !=0)=true:=by simp;omega
 have g2:(r==0)=false:=by simp;omega
 first|(have qq7k:=qq7k;clear he hv dF)|(clear he hv hT dF)
 unfold vlV at*;first|(have qq7k:=qq7k;go_enter func98,ntmps98)|(go_enter func105,ntmps105)
 go_upto_region 1 with fail;rw[←Hg,←Hi];clear Hg Hi;go_wp2_with(with_reducible refine h_A ?_);refine Ba.mono ?_;rintro e w2 ⟨rfl,Hc⟩;clear Ba;go_wp2_with(with_reducible refine h_A ?_);go_ret2
 exact⟨none,0,rfl,Own.none_ _ _ _ _,Ha.trans (Hc.mono BW)⟩):p:=h
theorem Z1c_(h:p:=by
 subst hk
 first
 | have qq7q:=qq7q
   generalize dq:(((2:Nat):Int))=k at*
   obtain rfl:k=2:=by rw[←dq];rfl
 | generalize dq:(((8:Nat):Int))=k at*
   obtain rfl:k=8:=by rw[←dq];rfl
 clear dq;have c0:=hX.c0;have c1:=hX.c1;have c2:=hX.c2;have c3:=hX.c3;have c4:=hX.c4;go_enter func118,ntmps118;go_upto_region 1 with fail;rw[←Hg,←Hi];clear Hg Hi;go_upto_region 2 with fail;have Hk:=hX.below Hc;first|(have qq7q:=qq7q;generalize(w1.alloc (.cells #[.int .u8 2] 5))=w2 at*)|(generalize(w1.alloc (.cells #[.int .u8 8] 5))=w2 at*)
 have hB:=Ha.trans (Hc.mono BW);have fj:=dF.up Hc;have cj:=Hc.size;generalize cT:w1.heap.size=lb at*;have wP:Hid (xb≠lb):=Lib.hid mX;have DQ:=Lib.hid cT;clear c0 c1 c2 c3 c4 hX dF cT Ha;have c0:=Hk.c0;have c1:=Hk.c1;have c2:=Hk.c2;have c3:=Hk.c3;have c4:=Hk.c4;go_wp2_with(with_reducible refine h_A ?_);first|(have qq7q:=qq7q;have iv: [UInt8.ofNat 2]++ [UInt8.ofNat v.n]=R:=by rw[HR.out];simp[yu,be])|(have iv: [UInt8.ofNat 8]++ [UInt8.ofNat v.n]=R:=by rw[HR.out];simp[yu,be])
 have lP:R.length=1+1:=by rw[←iv];rfl
 have oK:Value.int .u8 ((v.n:Int) % 256)=u8v (UInt8.ofNat v.n):=by rw[kS,UInt8.toNat_ofNat'];first|(congr;done)|(congr;omega)
 have nG:=QV (size:=1) w2 #[.int .u8 ((v.n:Int) % 256)] 5 (0,0) 1 1 rfl Wq WX;have Hh:=(Below.refl w2.heap.size w2).alloc (Nat.le_refl _) (.cells #[.int .u8 ((v.n:Int) % 256)] 5);have i5:=zi b7 Hh;have ee:=Hh.size;first|(have qq7q:=qq7q;have e8: [UInt8.ofNat 2].map u8v++ #[Value.int .u8 ((v.n:Int) % 256)].toList=R.map u8v:=by rw[←iv];simp[oK])|(have e8: [UInt8.ofNat 8].map u8v++ #[Value.int .u8 ((v.n:Int) % 256)].toList=R.map u8v:=by rw[←iv];simp[oK])
 have iV:=Lib.hid lP;clear c0 c1 c2 c3 c4 oK lP;refine zc (yc slB rfl rfl rfl rfl i5 nG nQ Wq Hj Wq ?_);intro A4 q4 w4 Bv Bb _;have bI:=(hB.trans (Hh.mono hB.size)).grown Bb (Nat.le_trans hB.size ee) mQ;rw[e8]at Bv;clear iv e8;go_wp2_with(with_reducible refine h_A ?_);go_ret
 exact⟨A4,q4,by rw[iV.out];rfl,by rw[iV.out];exact Bv.base_le BW,bI⟩):p:=h
theorem Z42_(h:p:=by
 intro j u hu
 first
 | have qqic:=qqic
   have hj:j<l.length:=by have:=(List.getElem?_eq_some_iff.1 hu).1;simpa using this
   obtain⟨b,off,e,_,hc⟩:=hr.at_ Wq
 | have hm:0<m:=by
    rcases Nat.eq_zero_or_pos m with h0|h0
    ·subst h0;have hn:news=[]:=List.eq_nil_of_length_eq_zero (by simpa using hr.len);subst hn;simp at hu
    exact h0
   obtain⟨b,off,e,_,hc⟩:=hr.at_ hm
 injection e with e
 subst e;have nv:(⟨b,off,none⟩:Addr).add j=⟨b,off+j,none⟩:=by unfold Addr.add;split<;>simp_all
 rw[nv];exact hc j u hu):p:=h
theorem Z1d_(h:p:=by
 obtain⟨i,hi,hz,hs,dX⟩:=hT.i;rcases A' with _|ad
 ·have hm:m=0:=by
   rcases Nat.eq_zero_or_pos m with h0|h0
   ·exact h0
   obtain⟨b,off,e,_⟩:=hr.at_ h0;cases e
  subst hm;have hn:news=[]:=List.eq_nil_of_length_eq_zero (by simpa using hr.len);subst hn;first|(have qq7w:=qq7w;refine⟨A,c,w,?_,by simpa using Hl,World.grownBy.refl w _,.inl rfl⟩)|(refine⟨w,?_,by simpa using Hl,World.grownBy.refl w _⟩)
  rcases Hl.2 with⟨hv,rfl⟩|⟨g,cap,cur,hv,_,_,iC,_⟩
  ·(injection hv with h1 h2 h3);subst h1 h3;simp[Builtin.append_,run_underlying hT.u,sizeOf,typeInfo,hi,Builtin.lenOf,Builtin.firstCells]
  injection hv with h1 h2 h3
  subst h1 h3;simp[Builtin.append_,run_underlying hT.u,sizeOf,typeInfo,hi,Builtin.lenOf,Builtin.firstCells,iC,storeCells]
 have iy:∀j u,news[j]?=some u→w.cell? (ad.add j)=some u:=by
  exact Z42_
 first
 | have qq7w:=qq7w
   obtain⟨v',w',bv,h2,h3,_,h5⟩:=run_append_own_at (P:=P) w base t ty e i z size bytes hT.u hi hz hs dX hT.zs hT.pos _ n xs Hl ad m c' news hr.len iy h1 Dd Bm Hf;obtain⟨A2,c2,rfl⟩:=jQ h2;rw[xh]at h3 h5;rw[xh]at h5
   exact⟨A2,c2,w',bv,h2,h3,h5⟩
 | have o9:=Hl
   rcases Hl.2 with⟨hv,rfl⟩|⟨g,cap,cur,hv,_⟩
   ·(injection hv with h1 h2 h3);subst h1 h3;(obtain rfl:m=0:=by omega);obtain⟨v',w',bv,h2,h3,h4,h5⟩:=run_append_own_at (P:=P) w base t ty e i z size bytes hT.u hi hz hs dX hT.zs hT.pos _ 0 xs Hl ad 0 c' news hr.len iy h1 Wq (by rw[Nat.add_zero,Nat.zero_mul];omega) Hf;obtain rfl:=h4.2 ⟨rfl,rfl⟩;exact⟨w',bv,h2,h3⟩
   ·(injection hv with h2 h3 h4);subst h2 h4
    exact run_append_own_spare (P:=P) w base t ty e i size hT.u hi hs g n c xs Hl ad m c' news hr.len iy h1 fP):p:=h
theorem Z1e_(h:p:=by
 first
 | have qq7z:=qq7z
   (obtain rfl:i=s.length:=by omega);have HE:Hid (p1=LS.ones ctlG P0 s):=Lib.hid (by rw[t3.out,List.take_length])
   clear dI
 | have d5:((p1.1.st:Int)!=5)=false:=by rw[h5];rfl
   have HE:Hid (p1=LS.ones ctlG P0 s):=Lib.hid (by
    have:=QP ctlG (s.take i) P0 (s.drop i);rw[List.take_append_drop,←t3.out,qy ctlG h5]at this
    exact this.symm)
   clear h5 dI
 go_upto_region 7 with fail;have B9:Below wr.heap.size wr wr.drew:=za (Below.refl _ wr) 1;have Hk:=hX.below B9;have dQ:=hK.trans (.below (F:=U) B9) (fun g hg=>.inl hg);clear hX hK c0 B9;refine zt (fun W:World=>W.cell? ⟨lb,5,none⟩=some (.string (str p1.1.sent))∧W.cell? ⟨lb,6,none⟩=some (.slice TT p1.1.told.length tc)) Wj ?_;have hS:wr.drew.cell? ⟨lb,5,none⟩=some (.string (str p1.1.sent))∧wr.drew.cell? ⟨lb,6,none⟩=some (.slice TT p1.1.told.length tc):=⟨Hk.box.cell (j:=5) rfl,Hk.box.cell (j:=6) rfl⟩;generalize wr.drew=wd at*;refine rg_t 0 hS ?_;simp only[List.getElem_toArray,List.getElem_cons_zero,Act.put,List.setIfInBounds_toArray,List.set_cons_zero,List.set_cons_succ];refine rg_t 1 hS ?_;simp only[g_S];refine rg_t 2 hS ?_;simp only[g_S];refine ze 3 (v:=?_) rfl Wj Wj Wj hS rfl ?_ ?_;rotate_left
 ·intro wS He;have k0:=He.1;go_simp;(with_reducible rfl)
 simp only[g_S];refine rg_t 4 hS ?_;simp only[g_S];refine rg_t 5 hS ?_;simp only[g_S];refine rg_t 6 hS ?_;simp only[g_S];refine ze 7 (v:=?_) rfl Wj Wj Wj hS rfl ?_ ?_;rotate_left
 ·intro wS He;have k0:=He.2;go_simp;(with_reducible rfl)
 simp only[g_S];refine rg_t 8 hS ?_;simp only[g_S];refine rg_t 9 hS ?_;simp only[g_S];refine zD Wj ?_;go_wp2_with(with_reducible refine h_A ?_);go_ret2;rw[←Sw.out,←HE.out]
 exact Zh Hk IJ dQ G5 GK uu Wq):p:=h
theorem Z1f_(h:p:=by
 obtain⟨f,g,h⟩:=x;obtain⟨h1,h2,h3⟩:=hw;simp only at h1 h2 h3;have hB:Below w.heap.size w (w.alloc (.cells #[.int .u32 (f:Int),.string (str g),.string (str h)] 73)):=(Below.refl _ _).alloc (Nat.le_refl _) _;have gB:=zh g;have nU:=zh h;by_cases c1:g=[]
 ·first|(have qq81:=qq81;have fG:(str g).toList.isEmpty=true:=by rw[c1,zn];rfl)|(have fG:((str g).size:Int)<1:=by rw[gB,c1];decide)
  have he:Xd.err ⟨f,g,h⟩=40:=by simp[Xd.err,Xd.ok,c1]
  rw[he];clear gB nU c1 he;unfold xdV;first|(have qq81:=qq81;go_enter func121,ntmps121)|(go_enter func115,ntmps115)
  go_wp2_with(with_reducible refine h_A ?_);go_ret;exact⟨rfl,hB⟩
 first
 | have qq81:=qq81
   have fG:(str g).toList.isEmpty=false:=by rw[zn];simpa using c1
 | have fB:0<g.length:=List.length_pos_iff.2 c1
   have fG:decide (((str g).size:Int)<1)=false:=by simp;omega
 by_cases c2:64<g.length
 ·have oS:(64:Int)<((str g).size:Int):=by omega
  have he:Xd.err ⟨f,g,h⟩=40:=by simp[Xd.err,Xd.ok];omega
  rw[he];clear gB nU c1 he;unfold xdV;first|(have qq81:=qq81;go_enter func121,ntmps121)|(go_enter func115,ntmps115)
  go_wp2_with(with_reducible refine h_A ?_);go_ret;exact⟨rfl,hB⟩
 have oS:decide ((64:Int)<((str g).size:Int))=false:=by simp;omega
 by_cases c3:64<h.length
 ·have iG:(64:Int)<((str h).size:Int):=by omega
  have he:Xd.err ⟨f,g,h⟩=40:=by simp[Xd.err,Xd.ok];omega
  rw[he];clear gB nU c1 he;unfold xdV;first|(have qq81:=qq81;go_enter func121,ntmps121)|(go_enter func115,ntmps115)
  go_wp2_with(with_reducible refine h_A ?_);go_ret;exact⟨rfl,hB⟩
 have iG:¬(64:Int)<((str h).size:Int):=by omega
 have he:Xd.err ⟨f,g,h⟩=0:=by simp[Xd.err,Xd.ok];exact⟨c1,by omega,by omega⟩
 rw[he];clear gB nU c1 he;unfold xdV;first|(have qq81:=qq81;go_enter func121,ntmps121)|(go_enter func115,ntmps115)
 go_wp2_with(with_reducible refine h_A ?_);go_ret
 exact⟨rfl,hB⟩):p:=h
theorem Z1g_(h:p:=by
 obtain⟨b1,b2,b3,b4,ty,tr,ch,ld⟩:=f;obtain⟨h1,h2,h3⟩:=hw;simp only at h1 h2 h3 hl;have hB:Below w.heap.size w (w.alloc (.cells #[.bool b1,.bool b2,.bool b3,.bool b4,.int .u8 (ty:Int),.int .u8 (tr:Int),.int .u16 (ch:Int),.string (str ld)] 97)):=(Below.refl _ _).alloc (Nat.le_refl _) _;have dr:=zh ld;by_cases c1:3<ty
 ·have fG:(3:Int)<(ty:Int):=by omega
  have he:Fr.err ⟨b1,b2,b3,b4,ty,tr,ch,ld⟩=60:=by simp[Fr.err,Fr.ok];omega
  rw[he];unfold frV;first|(have qq82:=qq82;go_enter func65,ntmps65)|(go_enter func62,ntmps62)
  go_wp2_with(with_reducible refine h_A ?_);go_ret;exact⟨rfl,hB⟩
 have fG:decide ((3:Int)<(ty:Int))=false:=by simp;omega
 by_cases c2:15<tr
 ·have oS:(15:Int)<(tr:Int):=by omega
  have he:Fr.err ⟨b1,b2,b3,b4,ty,tr,ch,ld⟩=60:=by simp[Fr.err,Fr.ok];omega
  rw[he];unfold frV;first|(have qq82:=qq82;go_enter func65,ntmps65)|(go_enter func62,ntmps62)
  go_wp2_with(with_reducible refine h_A ?_);go_ret;exact⟨rfl,hB⟩
 have oS:decide ((15:Int)<(tr:Int))=false:=by simp;omega
 by_cases c3:4084<ld.length
 ·have iG:(4084:Int)<((str ld).size:Int):=by omega
  have he:Fr.err ⟨b1,b2,b3,b4,ty,tr,ch,ld⟩=60:=by simp[Fr.err,Fr.ok];omega
  rw[he];clear dr;unfold frV;first|(have qq82:=qq82;go_enter func65,ntmps65)|(go_enter func62,ntmps62)
  go_wp2_with(with_reducible refine h_A ?_);go_ret;exact⟨rfl,hB⟩
 have iG:¬(4084:Int)<((str ld).size:Int):=by omega
 have he:Fr.err ⟨b1,b2,b3,b4,ty,tr,ch,ld⟩=0:=by simp[Fr.err,Fr.ok];omega
 rw[he];clear dr;unfold frV;first|(have qq82:=qq82;go_enter func65,ntmps65)|(go_enter func62,ntmps62)
 go_wp2_with(with_reducible refine h_A ?_);go_ret
 exact⟨rfl,hB⟩):p:=h
theorem Z1h_(h:p:=by
 have BD:=Zc Hl;have Ba:=kY hp w cs hb hs p h0 MR
 first
 | have qq83:=qq83
   have dr:=zh s;have mS:s.length≤100000000000:=by omega
   have HN:Hid (n+s.length=(l++s).length):=Lib.hid (by simp[BD])
 | have mS:m≤100000000000:=by omega
   have HN:Hid (n+m=(l++s).length):=Lib.hid (by simp[BD,hr.length])
 clear BD;first|(have qq83:=qq83;go_enter func35,ntmps35)|(go_enter func46,ntmps46)
 go_wp2_with(with_reducible refine h_B ?_);refine Ba.mono ?_;rintro e w1 ⟨rfl,bL,bM,cq⟩;have k1:=bL.cell (Q4 h1);have cY:=zk Hl bM (fun k hk e=>hne zAa)
 first
 | done
 | have qq83:=qq83
 | have dT:RdB w1 B A' m c' s:=⟨hr.len,hr.cap,hr.max,fun hm=>by
    obtain⟨b,o,e,dP,hc⟩:=hr.at_ hm;refine⟨b,o,e,dP,fun j u hu=>?_⟩;have h3:=hc j u hu;have dI:b<w.heap.size:=World.block_lt_of_cell? _ _ h3;(have eP:b≠g:=fun e'=>mN (by rw[e,e'];rfl));have hh:=bM.block b dI (fun e'=>eP (by injection e'));rw[←h3]
    simp only[World.cell?,hh]⟩
 have ru:base≤w1.heap.size:=by omega
 have HZ:=Lib.hid cq;clear cq;go_wp2_with(with_reducible refine h_B ?_);first|(have qq83:=qq83;refine zc (jB slB underlying9 rfl rfl rfl rfl cY Bm ru ?_))|(refine zc (yc slB rfl rfl rfl rfl cY dT (zM _) Wq UJ ru ?_))
 intro A2 c2 w2 bW Hm ig;rw[←List.map_append]at bW;have bE:=bL.grown Hm (fun e=>hne e.symm);have hlt:off+1<(cs.setIfInBounds off (bPtr g off)).size:=by rw[Array.size_setIfInBounds,hs];exact hp.lt
 first
 | done
 | have qq83:=qq83
 | have mh:blk A2=blk A∨∀k,blk A2=some k→w1.heap.size≤k:=ig.imp id (fun e k hk=>by rw[e]at hk;injection hk with hk;omega)
   clear ig
 go_wp2_with(with_reducible refine h_B ?_);first|(have qq83:=qq83;refine zc (xx rfl rfl rfl rfl bE (j:=off+1) (v:=.slice A2 (n+s.length) c2) rfl Wj hlt ?_))|(refine zc (xx rfl rfl rfl rfl bE (j:=off+1) (v:=.slice A2 (n+m) c2) rfl Wj hlt ?_))
 intro w3 bX H7 fV;clear fV;go_wp2_with(with_reducible refine h_B ?_);go_ret2
 first|(have qq83:=qq83;exact⟨rfl,Q5 hb Hl hne HN.out bL bM HZ.out bW Hm ig bX H7⟩)|(exact⟨rfl,Q5 hb Hl hne HN.out bL bM HZ.out bW Hm mh bX H7⟩)):p:=h
theorem Z1i_(h:p:=by
 first
 | have qq84:=qq84
   have ca:=B6 A n c w hr;have nh:lb<w.heap.size:=World.block_lt_of_cell? _ _ h4;clear B6 hr
   go_enter func29,ntmps29
 | have ca:=B6 A n c w he hr
   clear B6 he hr;go_enter func36,ntmps36
 go_wp2_with(with_reducible refine h_A ?_);refine ca.mono ?_;rintro e w1 ⟨A1,c1,rfl,rO,Ha⟩;have fF:=jm (P:=prog) underlying55 underlying9 underlying5 rO.rd;obtain⟨gb,w2,bC,bh,hG,H3⟩:=zo w1 #[.int .u8 0,.string (str bs)] 84;have b7:=yq (w:=w1) w1.heap.size #[.int .u8 0,.string (str bs)] 84 1 (Nat.le_refl _) WX (size:=2) rfl Wq;rw[←bh,←bC]at b7;have mN:RdG w2 w2.heap.size (some ⟨gb,0,none⟩) 1 1 [⟨0,bs⟩]:=b7.rd;have Hc:Below w.heap.size w w2:=Ha.trans (H3.mono Ha.size)
 first
 | have qq84:=qq84
   have fe:=ZO lb sz ⟨0,0,[⟨0,bs⟩]⟩ (some ⟨gb,0,none⟩) 1 1 w2 ((Hc.cell (p:=⟨lb,4,none⟩) nh).trans h4) Bm mN ⟨by simp,by simp,by simp⟩ Hq Wq
   clear ca b7 mN hG H3 h4
 | have bE:=hb.below Hc
   have fe:=Z9 lb sz ⟨0,0,[⟨0,bs⟩]⟩ (some ⟨gb,0,none⟩) 1 1 w2 (bE.cell h4) Bm mN ⟨by simp,by simp,by simp⟩ Hq Wq;clear ca b7 mN hG H3
 unfold asV at fe;simp only at fe;rw[show(((0:Nat)):Int)=0 from rfl]at fe;go_wp2_with(with_reducible refine h_A ?_);rw[←bC,←bh];clear bC bh
 (with_reducible refine fe.mono ?_)
 rintro e w3 ⟨rfl,Hh⟩
 first
 | have qq84:=qq84
   clear fe fF
 | have Hn:=Hc.trans (Hh.mono Hc.size)
   have bX:=hb.below Hn;have eN:=zi Hl Hn
   have BD:(qR ((sz:Int)-12) ⟨0,0,[⟨0,bs⟩]⟩).length≤67125248:=by
    have h1:=Ya (cutF ((sz:Int)-12) ⟨0,0,[⟨0,bs⟩]⟩);have h2:=YM ((sz:Int)-12) ⟨0,0,[⟨0,bs⟩]⟩;unfold qR;omega
   have po:=YN bplL w3 cs bX hs p h5 hp SA l (qR ((sz:Int)-12) ⟨0,0,[⟨0,bs⟩]⟩) h6 eN hne (by have:=Hn.size;omega) Wq;clear fe fF bE Hc Hh
 go_wp2_with(with_reducible refine h_A ?_)
 first
 | have qq84:=qq84
   go_ret
   exact⟨rfl,Hc.trans (Hh.mono Hc.size)⟩
 | refine po.mono ?_
   rintro e w5 ⟨rfl,hW⟩;go_wp2;go_end0
   exact⟨rfl,hW.from Hn⟩):p:=h
theorem Z1j_(h:p:=by
 first
 | have qq87:=qq87
   (have hd:(16384:Int)-(SZ:Int)<(f.load.length:Int):=by omega);have bE:=ey.bp;have dU:=uw;have cE:=ey.br;unfold asZ at cE;have Hc:=Bq;have OR:Hid (g.err f=3):=Lib.hid (by rcases HR.out with h|h;cases h.2;rcases h.2 with h|h;exact h.1;omega);(have bK:=fun W=>bK W 3);have OA:=hm.lt mb Cm
   clear ey q0 q2 q3 q4 q5 q6 q7 q8 q9 CK f0 f1 f2 f3 f4 f5 f6
 | have qq86:=qq86
   go_wp2_with(with_reducible refine h_B ?_);refine(Ba _).mono ?_;rintro e w7 ⟨rfl,dY⟩;have bE:=ey.bp.below dY;have dU:=yj uw (dY.block mb uw.lt);have cE:=ey.br.below dY;unfold asZ at cE;have Hc:=bH.trans (dY.mono bH.size);have OR:Hid (g.err f=70):=Lib.hid (by rcases HR.out with h|h;exact h.1;cases h.1);(have bK:=fun W=>bK W 70);have OA:=hm.lt mb Cm
   clear ey q0 q1 q2 q3 q4 q5 q6 q7 q8 q9 CK f0 f1 f2 f3 f4 f5 f6 f7
 | have HE6:=Lib.hid he
   (have su:f.err=60:=by simp[Fr.err,bJ]);rw[su]at Ba;clear he bJ su ml;(have bK:=fun W (hb:Box W pb 88 #[.map (some mb),.bool false]) (pd:W.ownsMap prog 156 rawV mb n D)=>QS pb mb n 60 false D W hb pd hne);have uw:=hm.owns;have Cm:=hm.inF;clear pC;go_wp2_with(with_reducible refine h_B ?_);refine(Ba _).mono ?_;rintro e w2 ⟨rfl,H3⟩;have bE:=bL.below H3;have dU:=yj uw ((H3.block mb (Nat.lt_of_lt_of_le uw.lt Ha.size)).trans (Ha.block mb uw.lt));have cE:=bO.below H3;have Hc:=Ha.trans (H3.mono Ha.size);clear bL bO eH Ha f0 f1 f2 f3 f4 f5 f6 f7 c0 c1
 go_wp2_with(with_reducible refine h_B ?_);refine(bK _ bE dU).mono ?_;rintro e wk ⟨rfl,lh,mC⟩;have iY:=zV cE mC (by intro e;have:=hm.lt mb Cm;rcases e with e|e<;>omega);unfold asZ;go_wp2_with(with_reducible refine h_B ?_);refine zc (zm (v:=.agg #[.int .u16 0,.int .u8 0,.slice none 0 0]) (vs:=[.int .u16 0,.int .u8 0,.slice none 0 0]) rfl rfl rfl rfl iY rfl Wj Wz WZ #[.int .u16 0,.int .u8 0,.slice none 0 0] Wz ?_);intro wz ns BP en;have eE:=lh.grown BP (sne Wq);have sG:KeepF F w wz:=((KeepF.below Hc).trans (mC.weak (G:=F) (by intro g hg;rcases hg with hg|hg<;>rw[hg];exact .inl hF;exact .inl Cm)) (fun g hg=>.inl hg)).trans (.grown (F:=fun g=>g=rb) BP (fun g hg=>.inl Hx)) (fun g hg=>.inr (by rw[hg];exact lz));go_wp2_with(with_reducible refine h_B ?_)
 first
 | have qq87:=qq87
   exact zv rfl ns rfl rfl rfl underlying42 rfl Wj rfl (v7 hlt eE hF hne sG (k:=3) OR.out Wq)
 | have qq86:=qq86
   exact zv rfl ns rfl rfl rfl underlying42 rfl Wj rfl (v7 hlt eE hF hne sG (k:=70) OR.out Wq)
 | exact zv rfl ns rfl rfl rfl underlying42 rfl Wj rfl (v7 hlt eE hF hne sG (k:=60) HE6.out Wq)):p:=h
theorem Z6o_(h:p:=by
 go_wp2_with(with_reducible refine h_A ?_);go_ret2
 exact⟨none,0,rfl,Own.none_ _ _ _ _,Below.refl _ _⟩):p:=h
theorem Z57_(h:p:=by
 rintro e w' ⟨rfl,rfl⟩
 exact Z6o_):p:=h
theorem Z1k_(h:p:=by
 first|(have qq89:=qq89;by_cases bQ:s.length<65536)|(have qq88:=qq88;by_cases bQ:s.length<256)|(by_cases bQ:s.length<4294967296)
 ·first|(have qq89:=qq89;have he:zE s.length 2=0:=by unfold zE;simp;omega)|(have qq88:=qq88;have he:zE s.length 1=0:=by unfold zE;simp;omega)|(have he:zE s.length 4=0:=by unfold zE;simp;omega)
  rw[he,yS he]
  first
  | have qq89:=qq89
    have hz:(s.length:Int) / 65536=0:=by omega
    simp only[List.length_append,zr,show(2:Int).toNat=2 from rfl,hl]
  | have qq88:=qq88
    have hz:(s.length:Int) / 256=0:=by omega
    simp only[List.length_append,zr,show(1:Int).toNat=1 from rfl,hl]
  | have hz:(s.length:Int) / 4294967296=0:=by omega
    simp only[List.length_append,zr,show(4:Int).toNat=4 from rfl,hl]
  go_enter func102,ntmps102;go_wp2_with(with_reducible refine h_A ?_);refine(qo _ w).mono ?_;rw[hw];rintro e w' ⟨rfl,rfl⟩;go_wp2_with(with_reducible refine h_A ?_);first|(have qq89:=qq89;refine(ka s.length 2 w' Wq Wq Wq).mono ?_)|(have qq88:=qq88;refine(ka s.length 1 w' Wq Wq Wq).mono ?_)|(refine(ka s.length 4 w' Wq Wq Wq).mono ?_)
  rintro e w1 ⟨A1,rfl,cY,Ha⟩;go_wp2_with(with_reducible refine h_A ?_);refine zc (qj slB underlying9 rfl rfl rfl rfl cY Wq Ha.size ?_);intro A2 c2 w2 bW Hm;have Hc:Below w'.heap.size w' w2:=Ha.grown Hm Ha.size (fun g hg=>(cY.blk_lt hg).1);rw[←List.map_append]at bW;go_wp2_with(with_reducible refine h_A ?_)
  first
  | have qq89:=qq89
    refine(jp A n c l A2 (2+s.length) c2 (be 2 s.length++s) w2 ((hb.below Hc).more Hc.size) bW.rd Wq).mono ?_
  | have qq88:=qq88
    refine(jp A n c l A2 (1+s.length) c2 (be 1 s.length++s) w2 ((hb.below Hc).more Hc.size) bW.rd Wq).mono ?_
  | refine(jp A n c l A2 (4+s.length) c2 (be 4 s.length++s) w2 ((hb.below Hc).more Hc.size) bW.rd Wq).mono ?_
  rintro e w3 ⟨A3,rfl,Bx,Hh⟩;rw[←List.append_assoc]at Bx;go_wp2_with(with_reducible refine h_A ?_);go_ret2;rw[Nat.add_assoc];exact⟨A3,_,rfl,Bx.base_le Hc.size,Hc.trans (Hh.mono Hc.size)⟩
 first|(have qq89:=qq89;have he:zE s.length 2=3:=by unfold zE;simp;omega)|(have qq88:=qq88;have he:zE s.length 1=3:=by unfold zE;simp;omega)|(have he:zE s.length 4=3:=by unfold zE;simp;omega)
 rw[he,yQ (by rw[he];omega)];first|(have qq89:=qq89;have hz:((s.length:Int) / 65536 !=0)=true:=by simp;omega)|(have qq88:=qq88;have hz:((s.length:Int) / 256 !=0)=true:=by simp;omega)|(have hz:((s.length:Int) / 4294967296 !=0)=true:=by simp;omega)
 go_enter func102,ntmps102;go_wp2_with(with_reducible refine h_A ?_);refine(qo _ w).mono ?_;rw[hw]
 exact Z57_):p:=h
theorem Z1l_(h:p:=by
 first
 | have qq8e:=qq8e
   have d1:((xc:Int)!=(f.chan:Int))=true:=by simp;omega
   have mD:Hid ((M.take (j+1)).filter (fun x=> !onT f.chan f.track x)=(M.take j).filter (fun x=> !onT f.chan f.track x)++ [⟨q1,q2,q3,q4,xy,xt,xc,xl⟩]):=Lib.hid (by
    rw[HT.out,List.filter_append];have:onT f.chan f.track ⟨q1,q2,q3,q4,xy,xt,xc,xl⟩=false:=by unfold onT;simp;omega
    simp[this])
   clear rI e1
 | subst e1
   (have d1:((f.chan:Int)!=(f.chan:Int))=false:=by simp);have d2:((xt:Int)!=(f.track:Int))=true:=by simp;omega
   have mD:Hid ((M.take (j+1)).filter (fun x=> !onT f.chan f.track x)=(M.take j).filter (fun x=> !onT f.chan f.track x)++ [⟨q1,q2,q3,q4,xy,xt,f.chan,xl⟩]):=Lib.hid (by
    rw[HT.out,List.filter_append];have:onT f.chan f.track ⟨q1,q2,q3,q4,xy,xt,f.chan,xl⟩=false:=by unfold onT;simp;omega
    simp[this])
   clear rI d1
 go_upto_region 35 with fail;try simp only[Act.put]
 go_quiet(fail);have dM:=za hB nq;have eo:=sP.out _ dM;clear k0 k1 k2 k3 k4 k5 k6 k7;have k0:=eo 0 _ rfl;have k1:=eo 1 _ rfl;have k2:=eo 2 _ rfl;have k3:=eo 3 _ rfl;have k4:=eo 4 _ rfl;have k5:=eo 5 _ rfl;have k6:=eo 6 _ rfl;have k7:=eo 7 _ rfl;simp only[Nat.add_zero]at k0;have AS:OwnF (wr.drewN nq) w8.heap.size A6 m c6 ((M.take j).filter (fun x=> !onT f.chan f.track x)):=hO.drewN nq;have g0:=(H5.below dM).c0;clear eo hO hB f5 f6 si AR;generalize wr.drewN nq=ws at*;go_wp2_with(with_reducible refine h_A ?_);first|(have qq8e:=qq8e;refine zc (jS yE slF underlying65 rfl rfl rfl rfl rfl (⟨q1,q2,q3,q4,xy,xt,xc,xl⟩:Fr) rfl AS Wq Wq dM.size ?_))|(refine zc (jS yE slF underlying65 rfl rfl rfl rfl rfl (⟨q1,q2,q3,q4,xy,xt,f.chan,xl⟩:Fr) rfl AS Wq Wq dM.size ?_))
 intro A7 c7 wa uy cL Nt hBa;rw[←mD.out]at uy;have Hc:=dM.trans hBa;clear AS cL Nt hBa k0 k1 k2 k3 k4 k5 k6 k7 g0;go_wp2_with(with_reducible refine h_A ?_)
 exact⟨⟨j+1,m+1,c7,A7,by omega,by go_num,rfl,by omega,uy,Hc⟩,by simp[RowKit.intOf];omega⟩):p:=h
theorem Z1m_(h:p:=by
 first
 | have qq8m:=qq8m
   skip
   have hm:xv k=255:=hM _ dy
 | have qq8l:=qq8l
   skip
   have hm:xv k=255:=hM _ dy
 | have qq8k:=qq8k
   skip
   have hm:xv k=255:=hM _ dy
 | have qq8j:=qq8j
   skip
   have hm:xv k=16:=hM _ dy
 | have qq8i:=qq8i
   skip
   have hm:xv k=3:=hM _ dy
 | have qq8h:=qq8h
   skip
   have hm:xv k=15:=hM _ dy
 | have qq8g:=qq8g
   skip
   have hm:xv k=15:=hM _ dy
 | have qq8f:=qq8f
   skip
   have hm:xv k=0:=hM _ dy
 | have wi:xv k=0:=by
    obtain⟨j,rfl⟩:=Nat.exists_eq_add_of_le' dy;rfl
   have hm:xv k=0:=wi
 rw[hm]at HY cN;first|have f0:((k:Int)==0)=true:=zC (v:=0) Wq|have f0:((k:Int)==0)=false:=zS (v:=0) Wq
 first|have f5:((k:Int)==5)=true:=zC (v:=5) Wq|have f5:((k:Int)==5)=false:=zS (v:=5) Wq
 first|have f1:((k:Int)==1)=true:=zC (v:=1) Wq|have f1:((k:Int)==1)=false:=zS (v:=1) Wq
 first|have f2:((k:Int)==2)=true:=zC (v:=2) Wq|have f2:((k:Int)==2)=false:=zS (v:=2) Wq
 first|have f3:((k:Int)==3)=true:=zC (v:=3) Wq|have f3:((k:Int)==3)=false:=zS (v:=3) Wq
 first|have f6:((k:Int)==6)=true:=zC (v:=6) Wq|have f6:((k:Int)==6)=false:=zS (v:=6) Wq
 first|have f7:((k:Int)==7)=true:=zC (v:=7) Wq|have f7:((k:Int)==7)=false:=zS (v:=7) Wq
 clear dy hm hM;first|(have qq8m:=qq8m;by_cases hx:x≤255)|(have qq8l:=qq8l;by_cases hx:x≤255)|(have qq8k:=qq8k;by_cases hx:x≤255)|(have qq8j:=qq8j;by_cases hx:x≤16)|(have qq8i:=qq8i;by_cases hx:x≤3)|(have qq8h:=qq8h;by_cases hx:x≤15)|(have qq8g:=qq8g;by_cases hx:x≤15)|(by_cases hx:x≤0)
 ·first
  | have qq8m:=qq8m
    have iG:¬(255:Int)<(x:Int):=by omega
  | have qq8l:=qq8l
    have iG:¬(255:Int)<(x:Int):=by omega
  | have qq8k:=qq8k
    have iG:¬(255:Int)<(x:Int):=by omega
  | have qq8j:=qq8j
    have iG:¬(16:Int)<(x:Int):=by omega
  | have qq8i:=qq8i
    have iG:¬(3:Int)<(x:Int):=by omega
  | have qq8h:=qq8h
    have iG:¬(15:Int)<(x:Int):=by omega
  | have qq8g:=qq8g
    have iG:¬(15:Int)<(x:Int):=by omega
  | have iG:¬(0:Int)<(x:Int):=by omega
  have HQ:=Lib.hid (HY.out hx);clear hx HY cN;go_wp2_with(with_reducible refine h_A ?_);exact⟨⟨k+1,by omega,by go_num,HQ.out,trivial⟩,by simp[intOf];omega⟩
 first
 | have qq8m:=qq8m
   have iG:(255:Int)<(x:Int):=by omega
 | have qq8l:=qq8l
   have iG:(255:Int)<(x:Int):=by omega
 | have qq8k:=qq8k
   have iG:(255:Int)<(x:Int):=by omega
 | have qq8j:=qq8j
   have iG:(16:Int)<(x:Int):=by omega
 | have qq8i:=qq8i
   have iG:(3:Int)<(x:Int):=by omega
 | have qq8h:=qq8h
   have iG:(15:Int)<(x:Int):=by omega
 | have qq8g:=qq8g
   have iG:(15:Int)<(x:Int):=by omega
 | have iG:(0:Int)<(x:Int):=by omega
 have BN:=cN.out Wq;clear hx HY cN;go_wp2_with(with_reducible refine h_A ?_);go_ret;rw[BN]
 exact⟨rfl,Below.refl _ _⟩):p:=h
theorem Z1n_(h:p:=by
 have Cp:∀(fn:Fn) (first cap:Array Value) (w:World),(Instr.makeFunc fn first cap).run prog w= .ok (.func fn first cap) w:=fun _ _ _ _=>rfl
 obtain⟨cb,w1,Bs,fF,hC,Ha⟩:=zg w #[.pointer (some ⟨ab,0,none⟩)] 198;have CS:=ha.lt;have hK:=(KP.refl B rb ab w).below Wq Ha;have bD:=hC.lt
 first
 | have qq8t:=qq8t
   have rQ:=jt 158 #[.pointer (some ⟨cb,0,none⟩)] (fun _ _=>rfl) (h.kp ((KP.refl B ab ab w).below Wq Ha) (Ne.symm hne) (Ne.symm hne)) hB _ #[.bool is,.int .u64 0,.string (str T.1),.int .u32 0,.string ⟨#[]⟩,.string ⟨#[]⟩,.slice none 0 0,.int .u8 0,.int .u64 0,.string ⟨#[]⟩,.slice none 0 0,.slice none 0 0] (ha.below Ha) Br hne T.2.1 T.2.2 AU (fun W o vb F eu hr hF ha=>by
    have hv:=hF vb (hr.inF rfl)
    exact zcG is T hT hr (hC.below eu) ha Mj Wq Wq Wq Br Wq NX)
 | have qq8s:=qq8s
   have rQ:=jt 156 #[.pointer (some ⟨cb,0,none⟩)] (fun _ _=>rfl) (h.kp ((KP.refl B ab ab w).below Wq Ha) (Ne.symm hne) (Ne.symm hne)) hB _ #[.bool is,.int .u64 0,.string (str T.1),.int .u32 0,.string ⟨#[]⟩,.string ⟨#[]⟩,.slice none 0 0,.int .u8 0,.int .u64 0,.string ⟨#[]⟩,.slice none 0 0,.slice none 0 0] (ha.below Ha) Br hne T.2.1 T.2.2 AU (fun W o vb F eu hr hF ha=>by
    have hv:=hF vb (hr.inF rfl)
    exact zbp is T hT hr (hC.below eu) ha Mj Wq Wq Wq Br Wq NX)
 | have qq8r:=qq8r
   have rQ:=jt 155 #[.pointer (some ⟨cb,0,none⟩)] (fun _ _=>rfl) (h.kp ((KP.refl B ab ab w).below Wq Ha) (Ne.symm hne) (Ne.symm hne)) hB _ #[.bool is,.int .u64 (T.1:Int),.string ⟨#[]⟩,.int .u32 0,.string ⟨#[]⟩,.string ⟨#[]⟩,.slice none 0 0,.int .u8 0,.int .u64 0,.string ⟨#[]⟩,.slice none 0 0,.slice none 0 0] (ha.below Ha) Br hne T.2.1 T.2.2 AU (fun W o vb F eu hr hF ha=>by
    have hv:=hF vb (hr.inF rfl)
    exact zcF is T hT hr (hC.below eu) ha Mj Wq Wq Wq Br Wq NX)
 | have qq8q:=qq8q
   have rQ:=jt 154 #[.pointer (some ⟨cb,0,none⟩)] (fun _ _=>rfl) (h.kp ((KP.refl B ab ab w).below Wq Ha) (Ne.symm hne) (Ne.symm hne)) hB _ #[.bool is,.int .u64 (T.1:Int),.string ⟨#[]⟩,.int .u32 0,.string ⟨#[]⟩,.string ⟨#[]⟩,.slice none 0 0,.int .u8 0,.int .u64 0,.string ⟨#[]⟩,.slice none 0 0,.slice none 0 0] (ha.below Ha) Br hne T.2.1 T.2.2 AU (fun W o vb F eu hr hF ha=>by
    have hv:=hF vb (hr.inF rfl)
    exact zcE is T hT hr (hC.below eu) ha Mj Wq Wq Wq Br Wq NX)
 | have rQ:=jt 153 #[.pointer (some ⟨cb,0,none⟩)] (fun _ _=>rfl) (h.kp ((KP.refl B ab ab w).below Wq Ha) (Ne.symm hne) (Ne.symm hne)) hB _ #[.bool is,.int .u64 (T.1:Int),.string ⟨#[]⟩,.int .u32 0,.string ⟨#[]⟩,.string ⟨#[]⟩,.slice none 0 0,.int .u8 0,.int .u64 0,.string ⟨#[]⟩,.slice none 0 0,.slice none 0 0] (ha.below Ha) Br hne T.2.1 T.2.2 AU (fun W o vb F eu hr hF ha=>by
    have hv:=hF vb (hr.inF rfl)
    exact zcD is T hT hr (hC.below eu) ha Mj Wq Wq Wq Br Wq NX)
 obtain⟨lr,fA⟩:∃x,x=(if(bad||T.2.2)=true then l else l.drop (l.length-T.2.1.length)):=⟨_,rfl⟩
 obtain⟨br,bV⟩:∃x,x=(bad||T.2.2):=⟨_,rfl⟩
 rw[←fA,←bV]at rQ ⊢;clear fA bV;first|(have qq8t:=qq8t;go_enter func132,ntmps132)|(have qq8s:=qq8s;go_enter func131,ntmps131)|(have qq8r:=qq8r;go_enter func130,ntmps130)|(have qq8q:=qq8q;go_enter func129,ntmps129)|(go_enter func128,ntmps128)
 go_upto_region 1 with fail;rw[←Bs,←fF];clear Bs fF;go_wp2_with(with_reducible refine h_A ?_);refine rQ.mono ?_;rintro e w2 By;have cE:=By.from hK;obtain⟨rfl,_⟩:=By;go_wp2_with(with_reducible refine h_A ?_);go_end0
 exact cE):p:=h
theorem Z1o_(h:p:=by
 first
 | have qq8u:=qq8u
   have g2:((q:Int)==1)=true:=by simp[eQ]
   have h0:xD (s.drop pos)=0:=by
    (refine Classical.byContradiction fun h0=>?_);have h:=HD.out;rw[if_neg h0]at h;exact h.2 GA (by rw[←h.1,eQ])
   have HF:Hid (zJ s=false):=Lib.hid (by rw[←HC.out,Ym fQ.out h0])
   clear h0 eQ GA gF
 | have g2:((q:Int)==1)=false:=by simp;omega
   have bR:xD (s.drop pos)≠0∧q=xD (s.drop pos):=by
    have h:=HD.out;split at h
    ·injection h with e1 e2;exact absurd e2 eQ
    rename_i h0;exact⟨h0,h.1⟩
   have cM:Hid (zJ (s.drop (pos+q))=zJ s):=Lib.hid (by rw[←HC.out,vF fQ.out bR.1,List.drop_drop,←bR.2]);rw[←bR.2]at gF;clear bR GA
 go_wp2_with(first|(with_reducible refine zU ?_)|(with_reducible refine yl ?_)|(with_reducible refine yk ?_)|(with_reducible refine yd ?_)|(with_reducible refine ym (s:=9) (t:=55) ?_));refine zc (Zq underlying9 rfl rfl rfl (l:=s) pos s.length (.inr ⟨_,_,rfl,rfl⟩) (.inl ⟨rfl,rfl⟩) Wq Wq ?_);rw[List.take_length];go_wp2_with(first|(with_reducible refine zU ?_)|(with_reducible refine yl ?_)|(with_reducible refine yk ?_)|(with_reducible refine yd ?_)|(with_reducible refine ym (s:=9) (t:=55) ?_));refine D1.mono ?_;rintro e w3 ⟨rfl,Hh⟩
 first
 | done
 | have qq8u:=qq8u
 | have ft:w3.heap[k]?=some (.stringIter (str s) (pos+q)):=(Hh.block k (Array.getElem?_eq_some_iff.1 Bk).1).trans Bk
   have HP3:=Lib.hid (YU ft)
 go_wp2_with(first|(with_reducible refine zU ?_)|(with_reducible refine yl ?_)|(with_reducible refine yk ?_)|(with_reducible refine yd ?_)|(with_reducible refine ym (s:=9) (t:=55) ?_))
 first
 | have qq8u:=qq8u
   go_ret;rw[HF.out]
   exact⟨rfl,Hc.trans (Hh.mono Hc.size)⟩
 | exact⟨⟨pos+q,by omega,ft,cM,Hc.trans (Hh.mono Hc.size)⟩,by rw[HP.out,HP3.out];omega⟩):p:=h
theorem Z1p_(h:p:=by
 first
 | have qq90:=qq90
   simp only[decide_eq_false h5]at wW;have HF:Hid (zw a b=false):=Lib.hid (by rw[HS.out];simp[h5])
   clear h1 h2 h3 h4 h5 HS cO
 | simp only[decide_eq_true h5]at wW
   have HF:Hid (zw a b=yJ a.v b.v):=Lib.hid (by rw[HS.out];simp[h1,h2,h3,h4,h5]);clear h1 h2 h3 h4 h5 HS
 go_enter func106,ntmps106;go_upto_region 1 with fail;rw[←Hg,←Hi,BU,←dE];clear Hg Hi BU dE;go_wp2_with(with_reducible refine h_A ?_);refine wW.mono ?_;rintro e w3 ⟨rfl,Hh⟩
 first
 | done
 | have qq90:=qq90
 | have LX:=cO w3 Hh
   have bU:=Hk.below Hh;have iI:=hY.below Hh;have oR:=hB.trans (Hh.mono hB.size);clear c_0 c_1 c_2 c_3 c_4 c_5 c_6 c_7 c_8 c_9 c_10 c_11;clear d_0 d_1 d_2 d_3 d_4 d_5 d_6 d_7 d_8 d_9 d_10 d_11;clear wW cO;have c_0:=bU.c0;have c_1:=bU.c1;have c_2:=bU.c2;have c_3:=bU.c3;have c_4:=bU.c4;have c_5:=bU.c5;have c_6:=bU.c6;have c_7:=bU.c7;have c_8:=bU.c8;have c_9:=bU.c9;have c_10:=bU.c10;have c_11:=bU.c11;have d_0:=iI.c0;have d_1:=iI.c1;have d_2:=iI.c2;have d_3:=iI.c3;have d_4:=iI.c4;have d_5:=iI.c5;have d_6:=iI.c6;have d_7:=iI.c7;have d_8:=iI.c8;have d_9:=iI.c9;have d_10:=iI.c10;have d_11:=iI.c11;generalize yJ a.v b.v=r at*;go_wp2_with(with_reducible refine h_A ?_);refine LX.mono ?_
   (rintro e w4 ⟨rfl,Hn⟩)
 clear c_0 c_1 c_2 c_3 c_4 c_5 c_6 c_7 c_8 c_9 c_10 c_11;clear d_0 d_1 d_2 d_3 d_4 d_5 d_6 d_7 d_8 d_9 d_10 d_11;first|(have qq90:=qq90;clear wW)|(clear LX)
 go_wp2_with(with_reducible refine h_A ?_);go_ret;rw[HF.out]
 first|(have qq90:=qq90;exact⟨rfl,hB.trans (Hh.mono hB.size)⟩)|(exact⟨rfl,oR.trans (Hn.mono oR.size)⟩)):p:=h
theorem Z1q_(h:p:=by
 obtain⟨rb,w0,bC,bh,hr,Hr⟩:=zo w #[.bool false,.int .u64 0,.string ⟨#[]⟩,.int .u32 0,.string ⟨#[]⟩,.string ⟨#[]⟩,.slice none 0 0,.int .u8 0,.int .u64 0,.string ⟨#[]⟩,.slice none 0 0,.slice none 0 0] 80;have nO:w.heap.size≤rb:=by omega
 first|(have qq92:=qq92;go_enter func30,ntmps30)|(go_enter func37,ntmps37)
 go_wp2_with(with_reducible refine h_B ?_);rw[←bC,←bh];clear bC bh;refine zc (zm (v:=.agg #[.bool true,.int .u64 (n:Int),.string (str s),.int .u32 0,.string ⟨#[]⟩,.string ⟨#[]⟩,.slice none 0 0,.int .u8 0,.int .u64 0,.string ⟨#[]⟩,.slice none 0 0,.slice none 0 0]) (vs:=[.bool true,.int .u64 (n:Int),.string (str s),.int .u32 0,.string ⟨#[]⟩,.string ⟨#[]⟩,.slice none 0 0,.int .u8 0,.int .u64 0,.string ⟨#[]⟩,.slice none 0 0,.slice none 0 0]) rfl rfl rfl rfl hr rfl Wj Wz WZ #[.bool true,.int .u64 (n:Int),.string (str s),.int .u32 0,.string ⟨#[]⟩,.string ⟨#[]⟩,.slice none 0 0,.int .u8 0,.int .u64 0,.string ⟨#[]⟩,.slice none 0 0,.slice none 0 0] Wz ?_);intro w1 dT bM cq;clear cq;have Ha:Below w.heap.size w w1:=Hr.grown bM Hr.size Wx;go_wp2_with(with_reducible refine h_B ?_)
 exact xG rfl dT rfl underlying80 rfl Wj rfl ⟨rfl,Ha⟩):p:=h
theorem Z1r_(h:p:=by
 go_simp;first|(have qq96:=qq96;refine hK _ _ hS ?_)|(refine hK _ _ (hS.alloc _) ?_)
 clear hK K;try simp only[g_S]
 first
 | have qq96:=qq96
   refine zj 6 rfl Wj rfl (fun K hK=>?_)
 | have k8:=(NP.alloc (.cells #[.int .u16 (a.chan:Int),.int .u8 (a.track:Int),.slice A a.segs.length c] 42)).cell h7
   refine zj 4 rfl Wj rfl (fun K hK=>?_)
 go_simp;refine hK _ _ (hS.alloc _) ?_;first|(have qq96:=qq96;clear hK K)|(clear hK K k8)
 try simp only[g_S]
 refine zj 7 rfl Wj rfl (fun K hK=>?_);refine jR (W:=wd) Qe slTA underlying29 rfl rfl rfl rfl (⟨a,A,c⟩:TAs) rfl hO (show(L.told.length+1)*32≤140737488355328 by omega) (show L.told.length≤1000000000 by omega) iT ?_;intro A2 c2 w2 iQ Hm ig Hc;have lU:=NP.grown Hm (fun e=>(Gb lb e.symm).2 rfl);have BI:=hS.grown Hm (fun e=>ND tb e.symm rfl);refine hK _ _ BI ?_;clear hK K;try simp only[g_S]
 refine rg_t 8 BI ?_;simp only[g_S];refine rg_t 9 BI ?_;simp only[g_S];have k8:=lU.cell h7;have k9:=lU.thaw 7;refine zj 10 rfl Wj rfl (fun K hK=>?_);go_simp;refine hK _ _ (BI.grown (yC w2 lb 7 (.slice A2 (L.told.length+1) c2)) (fun e=>hlt uq)) ?_;clear hK K k7 k8 k9;refine zD Wj ?_;go_wp2_with(with_reducible refine h_A ?_);go_end0
 exact⟨rfl,by rw[NV.out];exact gv (LStep.from B9 (dR a A c w2 _ A2 c2 TY hA iQ Hm ig (xW lU _) (yC w2 lb 7 _)))⟩):p:=h
theorem Z1s_(h:p:=by
 have d1:¬(str s).toList=[]:=by rw[zn];exact q1
 have d0:(str s).toList.isEmpty=false:=by rw[zn];simpa using q1
 by_cases q2:s=[47]
 ·first|(have qq98:=qq98;have lw:Hid (Y=false):=Lib.hid (by rw[hY];simp[q2]))|(have HR:=Lib.hid (show L.opened s={L.send Zs with st:=4} by unfold LS.opened;rw[if_neg (fun e=>e.2 q2)]))
  subst q2;have d2:(str [47]).toList=[47]:=by rw[zn]
  first
  | have qq98:=qq98
    clear hY q1;go_wp2_with fail;go_meet
    case rel=>exact⟨by rw[lw.out],rfl⟩
  | clear bZ q1
    go_wp2_with(with_reducible refine h_A ?_)
    (with_reducible refine fz.mono ?_)
    rintro e w5 ⟨rfl,bR⟩;clear fz;have iX:=bR;obtain⟨U',T',hM,_,_,_⟩:=bR;have c0:=hM.c0;have c1:=hM.thaw 0;clear hM;go_wp2_with(with_reducible refine h_A ?_);go_end0;exact⟨rfl,by rw[HR.out];exact(LStep.from Hr iX).set h.lb 0 _ (fun _ _ hM=>hM.setSt 4)⟩
 first|(have qq98:=qq98;have lw:Hid (Y=true):=Lib.hid (by rw[hY];simp[q1,q2]))|(have HR:=Lib.hid (show L.opened s=L.close 402 kK by unfold LS.opened;rw[if_pos ⟨q1,q2⟩]))
 have d2:¬(str s).toList=[47]:=by rw[zn];exact q2
 have d3:((str s).toList== [47])=false:=by rw[zn];simpa using q2
 first
 | have qq98:=qq98
   clear hY q1 q2;go_wp2_with fail;go_meet
   case rel=>exact⟨by rw[lw.out],rfl⟩
 | clear fz q1 q2
   go_wp2_with(with_reducible refine h_A ?_)
   (with_reducible refine bZ.mono ?_)
   rintro e w9 ⟨rfl,bR⟩;clear bZ;go_wp2_with(with_reducible refine h_A ?_);refine bodyPost_ret (results_none rfl _ _ _) rfl ?_
   exact⟨rfl,by rw[HR.out];exact LStep.from Hr bR⟩):p:=h
theorem Z1t_(h:p:=by
 first|(have qq9b:=qq9b;unfold wtL at hk)|(unfold jX at hk)
 simp only[List.mem_cons,List.not_mem_nil,or_false]at hk
 first
 | have qq9b:=qq9b
   (rcases hk with rfl|rfl|rfl)
 | rcases hk with rfl|rfl|rfl|rfl|rfl|rfl|rfl|rfl|rfl
   ·exact zc9 a h base A n c l w Hl Hf hn ha
   ·by_cases hv:a.n<256
    ·(have e:okA 110 a=zw a (agN a):=by unfold okA;simp[hv]);rw[e];exact zdd a h base A n c l w Hl Hf hn ha hv
    (have e:okA 110 a=false:=by unfold okA;simp[hv]);rw[e];exact KW a h base A n c l w Hl Hf hn ha Wq
 ·by_cases hv:a.n<65536
  ·(have e:okA 119 a=zw a (agN a):=by unfold okA;simp[hv]);rw[e];exact zbV a h base A n c l w Hl Hf hn ha hv
  have e:okA 119 a=false:=by unfold okA;simp[hv]
  rw[e];exact Xr a h base A n c l w Hl Hf hn ha Wq
 first
 | done
 | have qq9b:=qq9b
 | ·by_cases hv:a.n<4294967296
    ·(have e:okA 100 a=zw a (agN a):=by unfold okA;simp[hv]);rw[e];exact zde a h base A n c l w Hl Hf hn ha hv
    (have e:okA 100 a=false:=by unfold okA;simp[hv]);rw[e];exact KX a h base A n c l w Hl Hf hn ha Wq
 ·exact zbT a h base A n c l w Hl Hf hn ha
 ·exact zbU a h base A n c l w Hl Hf hn ha
 first
 | done
 | have qq9b:=qq9b
 | ·exact zda a h base A n c l w Hl Hf hn ha
   ·exact zdb a h base A n c l w Hl Hf hn ha
   ·exact zdc a h base A n c l w Hl Hf hn ha hT):p:=h
theorem Z1u_(h:p:=by
 first|done|(have qq9c:=qq9c)|(have cU:=World.block_lt_of_cell? W _ hb)
 unfold vlV at bP ⊢;obtain⟨xb,w1,bC,bh,hX,Ha⟩:=zg W #[.int .u8 (x.kind:Int),.int .u64 (x.n:Int),.string (str x.s),.slice hx.A1 x.keys.length hx.c1,.slice hx.A2 x.list.length hx.c2] 78
 first
 | done
 | have qq9c:=qq9c
 | have bL:w1.cell? ⟨bx,0,none⟩=some (.int .i64 ((m+1:Nat):Int)):=(Ha.cell (p:=⟨bx,0,none⟩) cU).trans hb
   have hw:IntKind.i64.wrap (((m+1:Nat):Int)-1)=(m:Int):=by rw[IntWalk.i64_in _ ⟨by omega,by omega⟩];omega
 have dT:=bP w1 Ha;have c0:=hX.c0;have c1:=hX.c1;have c2:=hX.c2;have c3:=hX.c3;have c4:=hX.c4
 first
 | have qq9c:=qq9c
   clear bP;unfold MayR at dT;generalize mayV zJ x=r at*
   go_enter func175,ntmps175
 | clear bP hb
   (obtain⟨q,hq⟩:∃q:Int,q=((m+1:Nat):Int):=⟨_,rfl⟩);rw[←hq]at bL hw;(have oo:q-1=(m:Int):=by omega);(have FV:0<q:=by omega);(have tn:q≤1001:=by omega);clear hq;unfold Qv at dT ⊢;generalize xJ m x=r at*;go_enter func172,ntmps172
 go_upto_region 1 with fail;rw[←bC,←bh];clear bC bh;go_wp2_with(with_reducible refine h_A ?_);refine dT.mono ?_
 exact Z5l_):p:=h
theorem Z46_(h:p:=by
 first
 | have qqis:=qqis
   (have Py:¬(12:Int)≤(N:Int):=by omega);have hv:zN b=false:=by rw[sm.out];simp[gi]
   clear gi
 | have qqir:=qqir
   (have PQ:(N:Int)≤4096:=by omega);have hv:zN b=true:=by rw[sm.out];simp[gi,Ch]
   clear gi Ch
 | have PQ:decide ((N:Int)≤4096)=false:=by simp;omega
   (have hv:zN b=false:=by rw[sm.out];simp[Ch]);clear gi Ch
 go_wp2_with(with_reducible refine h_A ?_);go_quiet(fail);go_wp2_with(with_reducible refine h_A ?_);go_ret;first|rw[hv]|skip
 exact⟨rfl,za (Below.refl _ _) _⟩):p:=h
theorem Z1v_(h:p:=by
 first
 | have qq9d:=qq9d
   have fG:¬(k:Int)<(n:Int):=by omega
 | have fG:(k:Int)<(n:Int):=by omega
   have oS:¬(k:Int)<12:=by omega
 clear pz gf;by_cases gi:12≤N
 ·have Py:(12:Int)≤(N:Int):=by omega
  by_cases Ch:N≤4096
  ·have qqir:=();exact Z46_
  exact Z46_
 have qqis:=()
 exact Z46_):p:=h
theorem Z1w_(h:p:=by
 first|done|(have qq9e:=qq9e)|(have WL:∀g,blk AK=some g→g<w5.heap.size:=fun g hg=>(h.kown.blk_lt hg).2)
 have hF:∀g,FB2 base A AK w5 g→FB2 base A2 AK w6 g:=fun g bM=>⟨bM.1,Nat.lt_of_lt_of_le bM.2.1 hg.size,by
  rcases hA with e|e
  ·rw[e];exact bM.2.2.1
  ·intro e2;have:=e g e2;have:=bM.2.1;omega,bM.2.2.2⟩
 have hk:∀g,FB2 base A AK w5 g→w6.heap[g]?=w5.heap[g]?:=fun g bM=>hg.block g bM.2.1 (fun e=>bM.2.2.1 e.symm)
 first
 | have qq9e:=qq9e
   have Rb:∀g,FN W4 w5 g→FB2 base A AK w5 g:=fun g bM=>⟨Nat.le_trans iT bM.1,bM.2,fun e=>by have:=h4 g (.inl e);have:=bM.1;omega,fun e=>by have:=h4 g (.inr e);have:=bM.1;omega⟩
   exact(((hv.mono Rb).keep hk hg.size).mono hF)
 | refine⟨by rw[List.length_append];exact ho,zk h.kown hg (fun g hg e=>h.ne g e hg),fun g hg e=>?_,fun p hp=>?_⟩
   ·rcases hA with e2|e2
    ·exact h.ne g (by rw[←e2,hg]) e
    have:=WL g e;have:=e2 g hg;omega
   rcases List.mem_append.1 hp with hp|hp
   ·exact((h.el p hp).keep hk hg.size).mono hF
   ·obtain rfl:=List.mem_singleton.1 hp;have Rb:∀g,FN W4 w5 g→FB2 base A AK w5 g:=fun g bM=>⟨Nat.le_trans iT bM.1,bM.2,fun e=>by have:=h4 g (.inl e);have:=bM.1;omega,fun e=>by have:=h4 g (.inr e);have:=bM.1;omega⟩
    exact(((hv.mono Rb).keep hk hg.size).mono hF)):p:=h
theorem Z6k_(h:p:=by
 go_wp2_with(with_reducible refine h_A ?_);go_meet
 exact⟨rfl,rfl,rfl,rfl⟩):p:=h
theorem Z1x_(h:p:=by
 have a2:(194:Int)≤(b:Int):=by omega
 have a3:¬(b:Int)≤223:=by omega
 have a4:(224:Int)≤(b:Int):=by omega
 first
 | have qq9i:=qq9i
   (have a5:(b:Int)≤239:=by omega);obtain⟨rfl,rfl,rfl⟩:=sw_3 Gz.out c3
   by_cases d1:b=224
 | have a5:¬(b:Int)≤239:=by omega
   (have a6:(240:Int)≤(b:Int):=by omega);(have a7:(b:Int)≤244:=by omega);obtain⟨rfl,rfl,rfl⟩:=sw_4 Gz.out c4;by_cases d1:b=240
 ·subst d1;exact Z6k_
 first
 | have qq9i:=qq9i
   have d2:((b:Int)==224)=false:=by simp;omega
   have d3:(if b=224 then 160 else 128)=128:=if_neg d1
 | have d2:((b:Int)==240)=false:=by simp;omega
   have d3:(if b=240 then 144 else 128)=128:=if_neg d1
 have OF:=Lib.hid d3;clear d3;first|(have qq9i:=qq9i;by_cases e1:b=237)|(by_cases e1:b=244)
 ·subst e1;exact Z6k_
 first
 | have qq9i:=qq9i
   have e2:((b:Int)==237)=false:=by simp;omega
   have e3:(if b=237 then 159 else 191)=191:=if_neg e1
 | have e2:((b:Int)==244)=false:=by simp;omega
   have e3:(if b=244 then 143 else 191)=191:=if_neg e1
 have S0:=Lib.hid e3;clear e3;go_wp2_with(with_reducible refine h_A ?_);go_meet
 exact⟨rfl,by rw[OF.out];rfl,by rw[S0.out];rfl,rfl⟩):p:=h
theorem Z6r_(h:p:=by
 go_wp2_with(with_reducible refine h_A ?_);go_ret
 exact⟨by rw[HV.out];rfl,bO⟩):p:=h
theorem Z4v_(h:p:=by
 have HV:=Lib.hid (HA.out.trans (if_neg (fun e=>by have:=refShape_iff.1 e;omega)))
 exact Z6r_):p:=h
theorem Z4z_(h:p:=by
 have HV:=Lib.hid (HA.out.trans (if_pos (refShape_iff.2 Wq)))
 exact Z6r_):p:=h
theorem Z1y_(h:p:=by
 first
 | have qq9n:=qq9n
   (have d0:((tr:Nat):Int)=0:=by omega);rw[d0]at x1;clear d0
   by_cases b1:i=1
 | obtain rfl:i=3:=by omega
   by_cases q1:t1=2
 ·first
  | have qq9n:=qq9n
    subst b1;obtain⟨b,off,rfl,z0⟩:=G9 0 Wq;rw[←H0.out]at z0;simp only[Nat.zero_mul,Nat.add_zero]at z0
    by_cases q0:t0=0
  | rw[show((t1:Nat):Int)=2 by omega]at z1
    obtain⟨b',off',e,z2⟩:=G9 2 Wq;(obtain⟨rfl,rfl⟩:b=b'∧off=off':=by simpa using e);rw[←H2.out]at z2;clear e;by_cases q2:t2=3
  ·(first|(have qq9n:=qq9n;rw[show((t0:Nat):Int)=0 by omega]at z0)|(rw[show((t2:Nat):Int)=3 by omega]at z2));exact Z4z_
  first|(have qq9n:=qq9n;have d1:¬(t0:Int)=0:=by omega)|(have d5:¬(t2:Int)=3:=by omega)
  exact Z4v_
 first|(have qq9n:=qq9n;have d1:¬(i:Int)=1:=by omega)|(have d5:¬(t1:Int)=2:=by omega)
 exact Z4v_):p:=h
theorem Z1z_(h:p:=by
 first|(have qq9u:=qq9u;have HQ:Hid (q=cntL v.list (m-1)):=Lib.hid (by rw[←HC.out,HD.out,if_pos CC]))|(skip)
 obtain⟨zb,w2,eT,fO,hZ,Hc⟩:=zg wr #[.int .u8 (x.kind:Int),.int .u64 (x.n:Int),.string (str x.s),.slice hx.A1 x.keys.length hx.c1,.slice hx.A2 x.list.length hx.c2] 78;have iU:=hB.trans (Hc.mono hB.size)
 first
 | have qq9u:=qq9u
   clear bP bD U0
 | have h1:=bP w2 iU Wq
   have cM:Hid (cntL (v.list.drop (i+1)) (cntV x q)=cntL v.list (m-1)):=Lib.hid (by rw[←HC.out,HD.out,if_neg CC]);have bD:=bD Wq;clear bP;unfold vlV at h1;have c0:=hZ.c0;have c1:=hZ.c1;have c2:=hZ.c2;have c3:=hZ.c3;have c4:=hZ.c4
 go_upto_region 5 with fail;rw[←eT,←fO]
 first
 | have qq9u:=qq9u
   clear eT fO
 | clear eT fO k0 k1 k2 k3 k4
   go_wp2_with(with_reducible refine h_A ?_);refine h1.mono ?_;rintro e w3 ⟨rfl,Hh⟩;have nD:=iU.trans (Hh.mono iU.size);clear h1
 go_wp2_with(with_reducible refine h_A ?_)
 first
 | have qq9u:=qq9u
   go_ret;rw[←HQ.out]
   exact⟨rfl,iU⟩
 | exact⟨⟨i+1,cntV x q,by omega,by go_num,rfl,by omega,by omega,cM,nD⟩,by simp[RowKit.intOf];omega⟩):p:=h
theorem Z20_(h:p:=by
 by_cases h1:x=1
 ·subst h1;first|(have qq9y:=qq9y;go_enter func80,ntmps80)|(go_enter func142,ntmps142)
  go_wp2_with(with_reducible refine h_A ?_);go_ret;exact⟨rfl,rfl⟩
 by_cases h2:x=2
 ·subst h2;first|(have qq9y:=qq9y;go_enter func80,ntmps80)|(go_enter func142,ntmps142)
  go_wp2_with(with_reducible refine h_A ?_);go_ret;exact⟨rfl,rfl⟩
 by_cases h4:x=4
 ·subst h4;first|(have qq9y:=qq9y;go_enter func80,ntmps80)|(go_enter func142,ntmps142)
  go_wp2_with(with_reducible refine h_A ?_);go_ret;exact⟨rfl,rfl⟩
 by_cases h8:x=8
 ·subst h8;first|(have qq9y:=qq9y;go_enter func80,ntmps80)|(go_enter func142,ntmps142)
  go_wp2_with(with_reducible refine h_A ?_);go_ret;exact⟨rfl,rfl⟩
 first
 | have qq9y:=qq9y
   have e:=YI h1 h2 h4 h8;rw[e]
   go_enter func80,ntmps80
 | have b1:(x==1)=false:=by simpa using h1
   (have b2:(x==2)=false:=by simpa using h2);(have b4:(x==4)=false:=by simpa using h4);(have b8:(x==8)=false:=by simpa using h8);rw[YI h1 h2 h4 h8];go_enter func142,ntmps142
 go_wp2_with(with_reducible refine h_A ?_);go_ret
 first|(have qq9y:=qq9y;exact⟨rfl,rfl⟩)|(exact⟨by simp,rfl⟩)):p:=h
theorem Z4n_(h:p:=by
 clear hk hc hd BW bQ mK bZ;unfold ctlF at f1;unfold mtV at pR;go_wp2_with(with_reducible refine h_A ?_)
 (with_reducible refine pR.mono ?_)
 rintro e rh ⟨rfl,dG⟩;clear pR;go_wp2_with(with_reducible refine h_A ?_);go_end0
 exact⟨rfl,by rw[HR.out];exact LStep.from bI dG⟩):p:=h
theorem Z21_(h:p:=by
 first
 | have qqa0:=qqa0
   have HR:=Lib.hid (show L.ctlM a m er={L.send Zt with st:=5} by unfold LS.ctlM;rw[if_neg zAc,if_neg Wq,if_neg Wq,if_neg Wq,if_pos hk])
   have pR:=Qx m A2 c2 hn bZ Bm hs
 | have qq9z:=qq9z
   have HR:=Lib.hid (show L.ctlM a m er={L.send v6 with st:=2} by unfold LS.ctlM;rw[if_neg zAc,if_pos ⟨hk,by omega⟩])
   have pR:=XE m A2 c2 hn bZ Bm hs
 | have HR:=Lib.hid (show L.ctlM a m er=L.tuned (m.args.getD 0 (ag0 false)).n (m.args.getD 1 (ag0 false)).n by unfold LS.ctlM;rw[if_neg zAc,if_neg Wq,if_pos ⟨hk,by omega⟩])
   (have cR:m.args.length=2:=by rw[bQ HE.out,hc,hd];rfl);have pR:=JX m A2 c2 hn bZ mK cR (m.args.getD 0 (ag0 false)) (m.args.getD 1 (ag0 false)) (by rw[List.getD_eq_getElem?_getD,List.getElem?_eq_getElem Wq];rfl) (by rw[List.getD_eq_getElem?_getD,List.getElem?_eq_getElem Wq];rfl) Bm hs;clear cR
 exact Z4n_):p:=h
theorem Z22_(h:p:=by
 first
 | have qqa1:=qqa1
   have d2:(L.ch:Int)<(f.chan:Int):=by omega
   have HR:=Lib.hid (show L.take ctl f=L.close 501 yt by unfold LS.take;rw[if_pos (.inr q2)])
 | have d1:decide ((L.sz:Int)<(f.load.length:Int)+12)=true:=by simp;omega
   have HR:=Lib.hid (show L.take ctl f=L.close 501 yt by unfold LS.take;rw[if_pos (.inl q1)])
 try simp only[Act.put]
 go_quiet(fail);first|(have qqa1:=qqa1;clear c3 c4 f6 f7 d1 d2)|(clear c3 c4 f6 f7 d1)
 have hx:=(h0.below (za (Below.refl _ _) nq)).mono (Nat.le_succ n);have Sx:=oW.on (za (Below.refl w0.heap.size w0) nq);clear B6 h0 oW io;have bZ:=jU 501 yt WJ WJ (hx) (Sx) Bm hs;rw[show((501:Nat):Int)=501 from rfl,show str yt=(⟨#[102,114,97,109,101]⟩:ByteArray)from rfl]at bZ;go_wp2_with(with_reducible refine h_A ?_);refine bZ.mono ?_;rintro e w9 ⟨rfl,bR⟩;clear bZ;go_wp2_with(with_reducible refine h_A ?_);refine bodyPost_ret (results_none rfl _ _ _) rfl ?_
 exact⟨rfl,by rw[HR.out];exact LStep.from (za Hr _) bR⟩):p:=h
theorem Z23_(h:p:=by
 skip
 first
 | have qqad:=qqad
   have bD:=qU A n c b B w.heap.size PS 0 (W.drewN q) B1 ef ST 11 Wq hn;have co:yF b 11=decide ((b.getD 11 0).toNat≤0):=rfl
   generalize decide ((b.getD 11 0).toNat≤0)=pv at bD co
 | have qqac:=qqac
   have bD:=qU A n c b B w.heap.size Pt 0 (W.drewN q) B1 ef Af 10 Wq hn;have co:yF b 10=decide ((b.getD 10 0).toNat≤0):=rfl
   generalize decide ((b.getD 10 0).toNat≤0)=pv at bD co
 | have qqab:=qqab
   have bD:=qU A n c b B w.heap.size Sq 0 (W.drewN q) B1 ef wg 9 Wq hn;have co:yF b 9=decide ((b.getD 9 0).toNat≤0):=rfl
   generalize decide ((b.getD 9 0).toNat≤0)=pv at bD co
 | have qqaa:=qqaa
   have bD:=qU A n c b B w.heap.size PM 0 (W.drewN q) B1 ef sX 8 Wq hn;have co:yF b 8=decide ((b.getD 8 0).toNat≤0):=rfl
   generalize decide ((b.getD 8 0).toNat≤0)=pv at bD co
 | have qqa9:=qqa9
   have bD:=qU A n c b B w.heap.size SK 15 (W.drewN q) B1 ef rX 5 Wq hn;have co:yF b 5=decide ((b.getD 5 0).toNat≤15):=rfl
   generalize decide ((b.getD 5 0).toNat≤15)=pv at bD co
 | have qqa8:=qqa8
   have bD:=qU A n c b B w.heap.size PA 0 (W.drewN q) B1 ef sB 4 Wq hn;have co:yF b 4=decide ((b.getD 4 0).toNat≤0):=rfl
   generalize decide ((b.getD 4 0).toNat≤0)=pv at bD co
 | have qqa7:=qqa7
   have bD:=qU A n c b B w.heap.size Sv 16 (W.drewN q) B1 ef i6 2 Wq hn;have co:yF b 2=decide ((b.getD 2 0).toNat≤16):=rfl
   generalize decide ((b.getD 2 0).toNat≤16)=pv at bD co
 | have qqa6:=qqa6
   have bD:=qU A n c b B w.heap.size SL 3 (W.drewN q) B1 ef dN 1 Wq hn;have co:yF b 1=decide ((b.getD 1 0).toNat≤3):=rfl
   generalize decide ((b.getD 1 0).toNat≤3)=pv at bD co
 | have qqa5:=qqa5
   have bD:=qU A n c b B w.heap.size SU 15 (W.drewN q) B1 ef ck 0 Wq hn;have co:yF b 0=decide ((b.getD 0 0).toNat≤15):=rfl
   generalize decide ((b.getD 0 0).toNat≤15)=pv at bD co
 | have bD:=zaN A n c b B w.heap.size (W.drewN q) B1 ef Wq hn
   have co:yF b 3=(decide (12≤frN b)&&decide (frN b≤4096)):=rfl;generalize(decide (12≤frN b)&&decide (frN b≤4096))=pv at bD co
 cases pv
 ·have BN:=xU mm Wq co;clear co;go_wp2_with(with_reducible refine h_A ?_);refine bD.mono ?_;rintro e w' ⟨rfl,q2,rfl⟩;go_wp2_with(with_reducible refine h_A ?_);go_ret;rw[BN];exact⟨rfl,by first|exact za dM _|exact dM|exact za eu _⟩
 have dR:=qf BM co;clear co;go_wp2_with(with_reducible refine h_A ?_);refine bD.mono ?_;rintro e w' ⟨rfl,q2,rfl⟩;go_wp2_with(with_reducible refine h_A ?_)
 first
 | have qqad:=qqad
   exact⟨⟨11+1,_,by omega,by go_num,dR,by first|rfl|exact World.drewN_drewN _ _ _⟩,by simp[intOf];try omega⟩
 | have qqac:=qqac
   exact⟨⟨10+1,_,by omega,by go_num,dR,by first|rfl|exact World.drewN_drewN _ _ _⟩,by simp[intOf];try omega⟩
 | have qqab:=qqab
   exact⟨⟨9+1,_,by omega,by go_num,dR,by first|rfl|exact World.drewN_drewN _ _ _⟩,by simp[intOf];try omega⟩
 | have qqaa:=qqaa
   exact⟨⟨8+1,_,by omega,by go_num,dR,by first|rfl|exact World.drewN_drewN _ _ _⟩,by simp[intOf];try omega⟩
 | have qqa9:=qqa9
   exact⟨⟨5+1,_,by omega,by go_num,dR,by first|rfl|exact World.drewN_drewN _ _ _⟩,by simp[intOf];try omega⟩
 | have qqa8:=qqa8
   exact⟨⟨4+1,_,by omega,by go_num,dR,by first|rfl|exact World.drewN_drewN _ _ _⟩,by simp[intOf];try omega⟩
 | have qqa7:=qqa7
   exact⟨⟨2+1,_,by omega,by go_num,dR,by first|rfl|exact World.drewN_drewN _ _ _⟩,by simp[intOf];try omega⟩
 | have qqa6:=qqa6
   exact⟨⟨1+1,_,by omega,by go_num,dR,by first|rfl|exact World.drewN_drewN _ _ _⟩,by simp[intOf];try omega⟩
 | have qqa5:=qqa5
   exact⟨⟨0+1,_,by omega,by go_num,dR,by first|rfl|exact World.drewN_drewN _ _ _⟩,by simp[intOf];try omega⟩
 | exact⟨⟨3+1,_,by omega,by go_num,dR,by first|rfl|exact World.drewN_drewN _ _ _⟩,by simp[intOf];try omega⟩):p:=h
theorem Z24_(h:p:=by
 first
 | have qqaj:=qqaj
   have hg:=yC w lb 4 (.int .u64 v)
   have hk:KeepF (fun k=>k=lb) w (w.setCell ⟨lb,4,none⟩ (.int .u64 v)):=.grown hg (fun g e=>.inl uq)
 | have qqai:=qqai
   have hg:=yC w lb 0 (.int .u8 v)
   have hk:KeepF (fun k=>k=lb) w (w.setCell ⟨lb,0,none⟩ (.int .u8 v)):=.grown hg (fun g e=>.inl uq)
 | have hg:=yC w lb 3 (.int .u64 v)
   have hk:KeepF (fun k=>k=lb) w (w.setCell ⟨lb,3,none⟩ (.int .u64 v)):=.grown hg (fun g e=>.inl uq)
 obtain⟨gp,p,SA,sc,TT,tc,th,F,h1,h2,h3,h4,h5,h6,h7,h8,h9,dV,fa⟩:=h.ex
 exact⟨⟨gp,p,SA,sc,TT,tc,th,F,xW h1 _,h2,zy h3 hk (fun b e=>(h9 b e).2.1),zy h4 hk (fun b e=>(dV b e).2.1),h5,fun x hx=>⟨zy (h6 x hx).1 hk (fun b e e2=>h.ut b ((h6 x hx).2 b e) (e2▸h.lb)),(h6 x hx).2⟩,
  h7.keep (fun k hF=>hk.2.1 k (h7.lt k hF) (fun e=>fa (e▸hF))) hk.1,h8,h9,dV,fa⟩,h.lb,Nat.le_trans h.size hk.1,fun b hb=>⟨(h.uB b hb).1,Nat.lt_of_lt_of_le (h.uB b hb).2 hk.1⟩,fun b hb=>Nat.lt_of_lt_of_le (h.tB b hb) hk.1,h.ut⟩):p:=h
theorem Z25_(h:p:=by
 first
 | have qqap:=qqap
   have NV:=Lib.hid (i9.out.trans (if_neg h4));(have k4:¬((L.st:Nat):Int)=4:=by omega);change wc.cell? ⟨lb,0,none⟩=some (.int .u8 (L.st:Int))at k0;clear i9 h4
   have bZ:=jU 501 yt WJ WJ (hM) (Ij) Bm hs
 | have qqao:=qqao
   (have h1:¬(er:Int)=0:=by omega);have i9:=Lib.hid (HQ.out.trans (if_neg h0));clear HQ h0 G0
   have bZ:=jU 501 yt WJ WJ (hM) (Ij) Bm hs
 | have qqan:=qqan
   have P8:=Lib.hid (Ad.out.trans (if_neg q2));(have d3:((L.st:Int)!=4)=true:=by simp;omega);clear q2 Ad
   have bZ:=yO 501 yt WJ WJ ⟨_,_,_,_,hM⟩ Bm hs
 | have qqam:=qqam
   have Ad:=Lib.hid (eZ.out.trans (if_neg q1));(have d1:((L.g.err f:Int)!=0)=true:=by simp;omega);clear q1 eZ
   have bZ:=yO 501 yt WJ WJ ⟨_,_,_,_,hM⟩ Bm hs
 | have qqal:=qqal
   (have d2:(L.ch:Int)<(f.chan:Int):=by omega);have HR:=Lib.hid (show L.take ctl f=L.close 501 yt by unfold LS.take;rw[if_pos (.inr q2)]);(try simp only[Act.put]);go_quiet(fail);clear c3 c4 f6 f7 d1 d2;have hx:=h0.below (za (Below.refl _ _) nq);clear B6 eU h0 io
   have bZ:=yO 501 yt WJ WJ ⟨_,_,_,_,hx⟩ Bm hs
 | have d1:decide ((L.sz:Int)<(f.load.length:Int)+12)=true:=by simp;omega
   have HR:=Lib.hid (show L.take ctl f=L.close 501 yt by unfold LS.take;rw[if_pos (.inl q1)]);(try simp only[Act.put]);go_quiet(fail);clear c3 c4 f6 f7 d1;have hx:=h0.below (za (Below.refl _ _) nq);clear B6 eU h0 io;have bZ:=yO 501 yt WJ WJ ⟨_,_,_,_,hx⟩ Bm hs
 rw[show((501:Nat):Int)=501 from rfl,show str yt=(⟨#[102,114,97,109,101]⟩:ByteArray)from rfl]at bZ;go_wp2_with(with_reducible refine h_A ?_);refine bZ.mono ?_;rintro e w9 ⟨rfl,bR⟩;clear bZ;go_wp2_with(with_reducible refine h_A ?_)
 first
 | have qqap:=qqap
   go_end0
   exact⟨rfl,by rw[NV.out];exact gv bR⟩
 | have qqao:=qqao
   go_end0
   exact⟨rfl,by rw[i9.out];exact gv bR⟩
 | have qqan:=qqan
   refine bodyPost_ret (results_none rfl _ _ _) rfl ?_
   exact⟨rfl,l',fD,by rw[P8.out];exact RStep.of hK wE wG bR⟩
 | have qqam:=qqam
   refine bodyPost_ret (results_none rfl _ _ _) rfl ?_
   exact⟨rfl,l',fD,by rw[Ad.out];exact RStep.of hK wE wG bR⟩
 | refine bodyPost_ret (results_none rfl _ _ _) rfl ?_
   exact⟨rfl,l,by omega,by rw[HR.out];exact RStep.from (za Hr _) bR⟩):p:=h
theorem Z26_(h:p:=by
 first
 | have qqav:=qqav
   have d1:((a.track:Int)!=0)=true:=by simp;omega
   clear qq q1
 | have qqau:=qqau
   have d2:(er !=0)=true:=by simpa using q2
   clear qq q1 q2
 | have qqat:=qqat
   clear qq q1 q2
 | have d3:((s:Int)!=(L.st:Int))=true:=by
    (have:¬s=L.st:=fun e=>qq ⟨q1,q2,rfl,e⟩);simp;omega
   clear qq q1 q2
 try simp only[Act.put]
 go_quiet(fail);first|(have qqav:=qqav;clear d1 c0 q0 x1)|(have qqau:=qqau;clear d1 d2 c0 q0 x1)|(have qqat:=qqat;clear d1 d2 c0 q0 x1)|(clear d1 d2 d3 c0 q0 x1)
 have eA:=za (Below.refl w9.heap.size w9) nq;have hn:=h9.below eA;have bI:=za pY nq;have bZ:=jU 501 yr WJ WJ hn (he.on bI) Bm hs;rw[show((501:Nat):Int)=501 from rfl,show str yr=(⟨#[99,111,110,116,114,111,108]⟩:ByteArray)from rfl]at bZ;go_wp2_with(with_reducible refine h_A ?_)
 (with_reducible refine bZ.mono ?_)
 rintro e rh ⟨rfl,dG⟩;clear bZ;go_wp2_with(with_reducible refine h_A ?_);refine bodyPost_ret (results_none rfl _ _ _) rfl ?_
 exact⟨rfl,by rw[HR.out];exact LStep.from bI dG⟩):p:=h
theorem Z27_(h:p:=by
 first|(have qqaz:=qqaz;by_cases q1:m.code=7)|(have qqay:=qqay;by_cases q1:m.code=6)|(by_cases q1:m.code=2)
 ·first
  | have qqaz:=qqaz
    have d1:((m.code:Int)==7)=true:=by simp;omega
    by_cases q2:L.st=3
  | have qqay:=qqay
    have d1:((m.code:Int)==6)=true:=by simp;omega
    by_cases q2:L.st=2
  | have d1:((m.code:Int)==2)=true:=by simp;omega
    by_cases q2:L.st=1
  ·(first|(have qqaz:=qqaz;have d2:((L.st:Int)==3)=true:=by simp;omega)|(have qqay:=qqay;have d2:((L.st:Int)==2)=true:=by simp;omega)|(have d2:((L.st:Int)==1)=true:=by simp;omega));have lw:Hid (Y=true):=Lib.hid (by rw[hY];simp[q1,q2]);clear hY q1 q2;go_wp2_with fail;go_meet
   case rel=>exact⟨by rw[lw.out],rfl⟩
  first|(have qqaz:=qqaz;have d2:((L.st:Int)==3)=false:=by simp;omega)|(have qqay:=qqay;have d2:((L.st:Int)==2)=false:=by simp;omega)|(have d2:((L.st:Int)==1)=false:=by simp;omega)
  have lw:Hid (Y=false):=Lib.hid (by rw[hY];simp[q2]);clear hY q1 q2;go_wp2_with fail;go_meet
  case rel=>exact⟨by rw[lw.out],rfl⟩
 first|(have qqaz:=qqaz;have d1:((m.code:Int)==7)=false:=by simp;omega)|(have qqay:=qqay;have d1:((m.code:Int)==6)=false:=by simp;omega)|(have d1:((m.code:Int)==2)=false:=by simp;omega)
 have lw:Hid (Y=false):=Lib.hid (by rw[hY];simp[q1]);clear hY q1;go_wp2_with fail;go_meet
 case rel=>exact⟨by rw[lw.out],rfl⟩):p:=h
theorem Z28_(h:p:=by
 first
 | have qqb0:=qqb0
   have HN:Hid (qO c k=[]∧(YQ c k).isSome=false):=Lib.hid (by unfold qO YQ;rw[hr];exact⟨rfl,rfl⟩)
 | have HN:Hid (qO c k=xi c++ [46]++r.word∧(YQ c k).isSome=true):=Lib.hid (by unfold qO YQ;rw[hr];exact⟨rfl,rfl⟩)
   have im:(xi c++ [46]++r.word).length≤30:=(Yc hr).2.1;simp only[List.length_append,List.length_cons,List.length_nil]at im
 rw[hr]at hf;unfold zaU at hf
 first
 | have qqb0:=qqb0
   simp only[Option.isSome_none]at hf
   clear hr
 | simp only[Option.isSome_some]at hf
   have hw:zck (some r)=r.word:=rfl;rw[hw]at hf;clear hr hw;have BW:=zh (xi c);have cj:=zh r.word
 go_enter func88,ntmps88;go_wp2_with(with_reducible refine h_A ?_);refine bD.mono ?_;rintro e w1 ⟨rfl,rfl⟩;go_wp2_with(with_reducible refine h_A ?_);refine hf.mono ?_;rintro e w1 ⟨rfl,hB⟩;go_wp2_with(with_reducible refine h_A ?_);go_ret2;rw[HN.out.1,HN.out.2]
 exact⟨rfl,hB⟩):p:=h
theorem Z29_(h:p:=by
 have g2:(n:Int)<2:=by omega
 first|(have qqb2:=qqb2;go_enter func91,ntmps91)|(go_enter func87,ntmps87)
 go_upto_region 2 with fail;rw[←bC,←bh];clear bC bh;go_wp2_with(with_reducible refine h_B ?_);refine zc (zm (v:=.agg #[.int .u8 0,.int .u8 0,.bool false,.slice none 0 0]) (vs:=[.int .u8 0,.int .u8 0,.bool false,.slice none 0 0]) rfl rfl rfl rfl hz rfl Wj Wz qP #[.int .u8 0,.int .u8 0,.bool false,.slice none 0 0] Wz ?_);intro w1 cq bM _;have Ha:=Hr.grown bM Hr.size Wx;go_wp2_with(with_reducible refine h_A ?_);refine zG rfl cq rfl rfl underlying106 rfl Wj rfl ?_
 exact⟨mt0,none,0,4,rfl,RM.zero _ _,Ha,.inl ⟨by omega,rfl,rfl⟩⟩):p:=h
theorem Z2a_(h:p:=by
 have e1:f.put=[]:=by simp[Fr.put,bJ]
 have e2:f.err=60:=by simp[Fr.err,bJ]
 rw[e1,e2];rw[e2]at Ba;first|(have qqb5:=qqb5;clear bJ e1 e2)|(clear bJ e1 e2 dm)
 obtain⟨b1,b2,b3,b4,ty,tr,ch,ld⟩:=f;unfold frV at Ba ⊢;simp only at Ba;have Hr:Below w.heap.size w (w.alloc (.cells #[.bool b1,.bool b2,.bool b3,.bool b4,.int .u8 (ty:Int),.int .u8 (tr:Int),.int .u16 (ch:Int),.string (str ld)] 97)):=(Below.refl _ _).alloc (Nat.le_refl _) _;first|(have qqb5:=qqb5;go_enter func48,ntmps48)|(go_enter func45,ntmps45)
 exact Z4q_):p:=h
theorem Z2b_(h:p:=by
 first
 | have qqb8:=qqb8
   have HR:=Lib.hid (wU.out.trans (if_neg q1));have d1:((m.code:Int)==11)=false:=by simp;omega
   clear q1
 | have qqb7:=qqb7
   (have d1:((a.track:Int)!=0)=true:=by simp;omega);have HR:Hid (L.ctlM a m er=L.close 501 yr):=Lib.hid (by unfold LS.ctlM;rw[if_pos (.inl q1)])
   clear q1
 | have qqb6:=qqb6
   (have d2:(er !=0)=true:=by simpa using q2);have HR:Hid (L.ctlM a m er=L.close 501 yr):=Lib.hid (by unfold LS.ctlM;rw[if_pos (.inr q2)])
   clear q1 q2
 | have d3:((m.cls:Int)!=1)=true:=by simp;omega
   have HR:Hid (L.ctlM a m er=L.close 501 yr):=Lib.hid (by unfold LS.ctlM ctlK;rw[if_neg (by rw[q1,q2];simp)];simp[q3]);clear q1 q2 q3
 have bZ:=yO 501 yr WJ WJ ⟨_,_,_,_,h0⟩ Bm hs;rw[show((501:Nat):Int)=501 from rfl,show str yr=(⟨#[99,111,110,116,114,111,108]⟩:ByteArray)from rfl]at bZ;clear h0;go_wp2_with(with_reducible refine h_A ?_)
 (with_reducible refine bZ.mono ?_)
 rintro e w9 ⟨rfl,bR⟩;clear bZ;go_wp2_with(with_reducible refine h_A ?_);first|(have qqb8:=qqb8;go_end0)|(refine bodyPost_ret (results_none rfl _ _ _) rfl ?_)
 exact⟨rfl,by rw[HR.out];exact RStep.from hB bR⟩):p:=h
theorem Z2c_(h:p:=by
 first|(have qqb9:=qqb9;(rcases h with⟨rfl,rfl,rfl,rfl⟩|⟨rb,rfl,rfl,rfl,rfl,hc,hF⟩|⟨rb,b,A,n,c,rfl,rfl,hne,hc,h0,h1,h2,_⟩))|((rcases h with⟨rfl,rfl,rfl,rfl⟩|⟨rb,rfl,rfl,rfl,rfl,hc,hF⟩|⟨rb,b,A,n,c,rfl,rfl,hne,hc,h0,h1,h2,_,_,hr,_⟩))
 ·first|(have qqb9:=qqb9;go_enter func77,ntmps77)|(go_enter func78,ntmps78)
  go_wp2_with(with_reducible refine h_A ?_);go_ret;exact⟨rfl,rfl⟩
 ·first|(have qqb9:=qqb9;go_enter func77,ntmps77)|(go_enter func78,ntmps78)
  go_wp2_with(with_reducible refine h_A ?_);first|(have qqb9:=qqb9;refine(Vr w).mono ?_)|(refine(JY w).mono ?_)
  rintro e w' ⟨rfl,rfl⟩;go_wp2_with(with_reducible refine h_A ?_);go_ret;exact⟨rfl,rfl⟩
 first
 | have qqb9:=qqb9
   go_enter func77,ntmps77
 | have hl:=hr.length
   go_enter func78,ntmps78
 go_wp2_with(with_reducible refine h_A ?_);first|(have qqb9:=qqb9;refine(Vs w b bad h1 h2).mono ?_)|(refine(JZ w b h0).mono ?_)
 rintro e w' ⟨rfl,rfl⟩;go_wp2_with(with_reducible refine h_A ?_);go_ret;first|done|(have qqb9:=qqb9)|(rw[hl])
 exact⟨rfl,rfl⟩):p:=h
theorem Z2d_(h:p:=by
 subst hk
 first
 | have qqbf:=qqbf
   generalize dq:(((50:Nat):Int))=k at*
   obtain rfl:k=50:=by rw[←dq];rfl
 | have qqbe:=qqbe
   generalize dq:(((49:Nat):Int))=k at*
   obtain rfl:k=49:=by rw[←dq];rfl
 | have qqbd:=qqbd
   generalize dq:(((2:Nat):Int))=k at*
   obtain rfl:k=2:=by rw[←dq];rfl
 | have qqbc:=qqbc
   generalize dq:(((8:Nat):Int))=k at*
   obtain rfl:k=8:=by rw[←dq];rfl
 | have qqbb:=qqbb
   generalize dq:(((149:Nat):Int))=k at*
   obtain rfl:k=149:=by rw[←dq];rfl
 | generalize dq:(((160:Nat):Int))=k at*
   obtain rfl:k=160:=by rw[←dq];rfl
 clear dq;have c0:=bU.c0;have c1:=bU.c1;have c2:=bU.c2;have c3:=bU.c3;have c4:=bU.c4
 first
 | have qqbf:=qqbf
   have hp:=yR A3 n1 q3 l1 v.n 8 w3 Bx.rd gZ Wq;rw[yV WJ]at hp
   rw[show l1++be (Int.toNat 8) v.n=R by rw[eZ.out];simp[yu]]at hp
 | have qqbe:=qqbe
   have hp:=yR A3 n1 q3 l1 v.n 8 w3 Bx.rd gZ Wq;rw[yV WJ]at hp
   rw[show l1++be (Int.toNat 8) v.n=R by rw[eZ.out];simp[yu]]at hp
 | have qqbd:=qqbd
   have hp:=yR A3 n1 q3 l1 v.n 1 w3 Bx.rd gZ Wq;rw[yV WJ]at hp
   rw[show l1++be (Int.toNat 1) v.n=R by rw[eZ.out];simp[yu]]at hp
 | have qqbc:=qqbc
   have hp:=yR A3 n1 q3 l1 v.n 1 w3 Bx.rd gZ Wq;rw[yV WJ]at hp
   rw[show l1++be (Int.toNat 1) v.n=R by rw[eZ.out];simp[yu]]at hp
 | have qqbb:=qqbb
   (have rT:zE v.s.length 2=0:=by simp[zE];omega);have hp:=qC A3 n1 q3 l1 v.s 2 w3 Bx.rd Wq Wq;rw[yS rT,rT]at hp;rw[show l1++be (Int.toNat 2) v.s.length++v.s=R by rw[eZ.out];simp[yu]]at hp
   clear rT
 | have rT:zE v.s.length 4=0:=by simp[zE];omega
   have hp:=qC A3 n1 q3 l1 v.s 4 w3 Bx.rd Wq Wq;rw[yS rT,rT]at hp;rw[show l1++be (Int.toNat 4) v.s.length++v.s=R by rw[eZ.out];simp[yu]]at hp;clear rT
 go_wp2_with(with_reducible refine h_A ?_);refine hp.mono ?_;rintro e w4 ⟨A4,mE,rfl,Bv,Hn⟩;clear hp c0 c1 c2 c3 c4;go_wp2_with(with_reducible refine h_A ?_);go_ret
 exact⟨A4,mE,rfl,Bv.base_le ee,BO.on Hn,i7.trans (Hn.mono ee)⟩):p:=h
theorem Z5y_(h:p:=by
 simp only[beq_eq_false_iff_ne];intro e
 exact cq (UInt8.toNat_inj.1 (by show z.toNat=1;omega))):p:=h
theorem Z2e_(h:p:=by
 first
 | have qqbg:=qqbg
   have g7:¬(4:Int)≤(n:Int):=by omega
   have mi:Hid (false=kq x.toNat b):=Lib.hid (by unfold kq;rw[List.getElem?_eq_none Wq];simp)
 | have pW:=mi false (decide_eq_false cq)
   have aj:((z.toNat:Int)==1)=false:=by
    exact Z5y_
   clear mi cq
 go_wp2_with(with_reducible refine h_B ?_);refine zc (zm (v:=.bool false) (vs:=[.bool false]) rfl rfl rfl rfl m7 rfl Wj Wz wX #[.int .u8 (x.toNat:Int),.int .u8 (y.toNat:Int),.bool false,.slice none 0 0] Wz ?_);intro w5 gC bc _;go_wp2_with(with_reducible refine h_A ?_);go_meet
 first|(have qqbg:=qqbg;exact⟨4,false,rfl,lZ,mi,gC,fV.grown bc (sne Wq),Hh.grown bc Hh.size Wx⟩)|(exact⟨4,false,rfl,lZ,pW,gC,fV.grown bc (sne Wq),Hh.grown bc Hh.size Wx⟩)):p:=h
theorem Z2f_(h:p:=by
 first|done|(have qqbh:=qqbh)|(refine BigFrame.wpList_want hw fun K hK=>?_)
 obtain⟨i,hi,hz,BW,dX⟩:=hT.i;obtain⟨v',w',bv,h2,h3,_⟩:=Lib.run_append_own_string (P:=P) (w:=w) base t u o.type e i hT.u hu hi hz BW dX _ n xs Hl (str l) (by rw[zh];simp only[maxLen];omega) (by rw[zh];omega) Hf;rw[zh]at h2;obtain⟨A2,c2,rfl⟩:=jQ h2;rw[xh]at h3
 have e1:Lib.strCells (str l)=l.map u8v:=by
  unfold Lib.strCells;simp[str,u8v]
 rw[e1]at h2;unfold Oper.wp execOp;simp only[ho,resolve,invoke,builtin,Sem.run_bind,Sem.run_pure,Result.andThen_ok,List.map_toArray,List.map_cons,List.map_nil,hs,hx,bv]
 first|(have qqbh:=qqbh;exact h A2 c2 w' h2 h3)|(exact hK _ _ (h A2 c2 w' h2 h3))):p:=h
theorem Z2g_(h:p:=by
 intro a' rest ei hl lH Br BQ;first|(have qqbk:=qqbk;have h2:(decide (errV a'.v=0)&&zw a' (agX2 a'))=true:=lH)|(have h2:(decide (((a'.x.err:Nat):Int)=0)&&zw a' (agX a'))=true:=lH)
 rw[Bool.and_eq_true,decide_eq_true_eq]at h2;obtain⟨h3,h4⟩:=h2;first|(have qqbk:=qqbk;have e2:a'=agX2 a':=(zL _ _).1 h4)|(have e2:a'=agX a':=(zL _ _).1 h4)
 have e3:a'.is=true:=by rw[e2];rfl
 first
 | have qqbk:=qqbk
   have lf:l=vlB a'.v++rest:=by
    rw[hl];(show vlP a'.v++rest=_);rw[vlP,if_pos h3]
   rw[lf,zcH Br.v h3]at hg
 | have bJ:a'.x.ok=true:=by
    cases hk:a'.x.ok
    ·simp[Xd.err,hk]at h3
    rfl
   have lf:l=a'.x.bytes++rest:=by
    rw[hl];(show a'.x.put++rest=_);rw[Xd.put_ok bJ]
   rw[lf,Yp Br.x bJ]at hg
 injection hg with g1 g2
 injection g2 with g2 g3
 subst g1 g2 g3 ei;refine⟨?_,?_,rfl⟩
 ·rw[e2];first|(have qqbk:=qqbk;simp only[agX2])|(simp only[agX])
  rw[←BQ,e3]
 rw[if_neg Wz,lf,List.drop_left]):p:=h
theorem Z2h_(h:p:=by
 first
 | have qqbm:=qqbm
   have HR:=Lib.hid (wU.out.trans (show L.tuned x y=L.close 501 qi by unfold LS.tuned;rw[if_pos (.inr (.inl q2))]))
   have d2:(y:Int)<256:=by omega
 | have qqbl:=qqbl
   have HR:=Lib.hid (wU.out.trans (show L.tuned x y=L.close 501 qi by unfold LS.tuned;rw[if_pos (.inl q1)]))
   have d1:(255:Int)<(x:Int):=by omega
 | have HR:=Lib.hid (wU.out.trans (show L.tuned x y=L.close 501 qi by unfold LS.tuned;rw[if_pos (.inr (.inr q3))]))
   have d3:(4096:Int)<(y:Int):=by omega
 have bZ:=yO 501 qi WJ WJ ⟨_,_,_,_,h0⟩ Bm hs;rw[show((501:Nat):Int)=501 from rfl,show str qi=(⟨#[116,117,110,101]⟩:ByteArray)from rfl]at bZ;clear h0;go_wp2_with(with_reducible refine h_A ?_)
 (with_reducible refine bZ.mono ?_)
 rintro e w9 ⟨rfl,bR⟩;clear bZ;go_wp2_with(with_reducible refine h_A ?_);refine bodyPost_ret (results_none rfl _ _ _) rfl ?_
 exact⟨rfl,by rw[HR.out];exact RStep.from hB bR⟩):p:=h
theorem Z2i_(h:p:=by
 have e1:yP (M:Int) a=70:=by simp[yP,c1,c2,bJ]
 have e2:cutF (M:Int) a=[]:=by simp[cutF,e1]
 have e3:xP a=70:=by simp[xP,bJ]
 rw[e1,e2];rw[e3]at Ba;clear e1 e2 e3 bJ;unfold asV at*
 first
 | have qqbq:=qqbq
   go_enter func47,ntmps47
   go_upto_region 1 with fail
 | go_enter func44,ntmps44
   go_wp2_with(with_reducible refine h_A ?_)
 rw[←bC,←bh];first|done|(have qqbq:=qqbq)|(go_step3)
 clear bC bh
 first
 | done
 | have qqbq:=qqbq
 | have x0:=hX.c0
   have x1:=hX.c1;have x2:=hX.c2
 go_wp2_with(with_reducible refine h_A ?_);refine(Ba _ Hr).mono ?_;rintro e w1 ⟨rfl,Ha⟩;have Hc:=Hr.trans (Ha.mono Hr.size);go_wp2_with(with_reducible refine h_A ?_);first|done|(have qqbq:=qqbq)|(rw[Exit.noGoto_ret])
 go_ret2
 exact⟨none,0,rfl,Own.none_ _ _ _ _,Hc⟩):p:=h
theorem Z2j_(h:p:=by
 first
 | have qqbs:=qqbs
   have HR:=Lib.hid (show L.tuned x y=L.close 501 qi by unfold LS.tuned;rw[if_pos (.inr (.inl q2))])
   have d2:(y:Int)<256:=by omega
 | have qqbr:=qqbr
   have HR:=Lib.hid (show L.tuned x y=L.close 501 qi by unfold LS.tuned;rw[if_pos (.inl q1)])
   have d1:(255:Int)<(x:Int):=by omega
 | have HR:=Lib.hid (UU.out.trans (show L.opened s=L.close 402 kK by unfold LS.opened;rw[if_pos (of_decide_eq_true HY.out.symm)]))
   have bZ:=yO 402 kK WJ WJ ⟨_,_,_,_,h0⟩ Bm hs;rw[show((402:Nat):Int)=402 from rfl,show str kK=(⟨#[111,112,101,110]⟩:ByteArray)from rfl]at bZ;clear h0
 go_wp2_with(with_reducible refine h_A ?_)
 (with_reducible refine bZ.mono ?_)
 rintro e w9 ⟨rfl,bR⟩;clear bZ;go_wp2_with(with_reducible refine h_A ?_);refine bodyPost_ret (results_none rfl _ _ _) rfl ?_
 first|(have qqbs:=qqbs;exact⟨rfl,by rw[HR.out];exact LStep.from Ha bR⟩)|(have qqbr:=qqbr;exact⟨rfl,by rw[HR.out];exact LStep.from Ha bR⟩)|(exact⟨rfl,by rw[HR.out];exact RStep.from hB bR⟩)):p:=h
theorem Z2k_(h:p:=by
 obtain⟨gp,p,SA,sc,TT,tc,th,F,h1,h2,h3,h4,h5,h6,h7,h8,h9,dV,fa⟩:=h.ex;first|(have qqbu:=qqbu;refine(Q3 code text gX lI lb L.sz B L.sent.length sc _ p SA L.sent w he h1 rfl rfl Bm rfl h2 rfl h3 (fun e=>(h9 lb e).2.1 rfl) h.size hs).mono ?_)|(refine(Zu code S bs B6 iT lb L.sz B L.sent.length sc _ p SA L.sent A m c w he hr h1 rfl rfl Bm rfl h2 rfl h3 (fun e=>(h9 lb e).2.1 rfl) h.size hs).mono ?_)
 rintro e w' ⟨rfl,hW⟩;refine⟨rfl,h.wrote rfl rfl rfl rfl fun cs q SB sd k1 k2 k3 k4 k5 k6 k7 k8 k9=>?_⟩;have e1:=k1;unfold Box at e1 h1;rw[h1]at e1;injection e1 with e1
 injection e1 with e1 _ _
 subst e1;injection k6 with k6
 injection k6 with e2 _ _
 subst e2
 exact⟨hW.ex,hW.keep⟩):p:=h
theorem Z2l_(h:p:=by
 first
 | have qqbx:=qqbx
   rw[if_pos (.inr (.inr (.inl CJ)))]
 | have qqbw:=qqbw
   rw[if_pos (.inr (.inl sk))]
 | have qqbv:=qqbv
   subst hb
   rw[if_pos (.inl rfl)]
 | rw[if_pos (.inr (.inr (.inr C8)))]
 go_enter func157,ntmps157;go_wp2_with(with_reducible refine h_A ?_);refine hN.mono ?_;rintro e w1 ⟨rfl,h1,bM⟩;first|done|(have qqbx:=qqbx)|(have qqbw:=qqbw)|(have qqbv:=qqbv)|(have fD:=h1.len)
 go_wp2_with(with_reducible refine h_A ?_);refine(yD h1).mono ?_
 first
 | done
 | have qqbx:=qqbx
 | have qqbw:=qqbw
 | have qqbv:=qqbv
 | rintro e w2 ⟨rfl,rfl⟩
   go_wp2_with(with_reducible refine h_A ?_);refine(yN h1).mono ?_
 rintro e w2 ⟨rfl,rfl⟩;go_wp2_with(with_reducible refine h_A ?_);refine(xk h1).mono ?_;rintro e w3 ⟨rfl,h3,H7⟩;go_wp2_with(with_reducible refine h_A ?_);go_ret
 exact⟨rfl,h3,bM.trans H7⟩):p:=h
theorem Z2m_(h:p:=by
 rw[hk]at hx f1 f2 f3 f4 f5 f6 ⊢;have a1:=List.length_eq_zero_iff.1 (f1 WJ);have a2:=List.length_eq_zero_iff.1 (f2 WJ WJ);have a3:=List.length_eq_zero_iff.1 (f3 WJ WJ)
 first
 | have qqc0:=qqc0
   have e:=qZ 1 (.inl rfl) x.n (by have:=f5 rfl;omega) rest;rw[show((1:Nat):Int)=1 from rfl]at e
   rw[if_neg WJ,if_pos (.inr rfl),show yu 2 x.n x.s (innB x)=be 1 x.n by simp[yu],e]
 | have qqbz:=qqbz
   have e:=qZ 1 (.inl rfl) x.n (by have:=f4 rfl;omega) rest;rw[show((1:Nat):Int)=1 from rfl]at e
   rw[if_neg WJ,if_pos (.inl rfl),show yu 8 x.n x.s (innB x)=be 1 x.n by simp[yu],e]
 | have qqby:=qqby
   have e:=qZ 8 (.inr (.inr (.inr rfl))) x.n Wq rest;rw[show((8:Nat):Int)=8 from rfl]at e
   rw[if_neg WJ,if_neg WJ,if_pos (.inl rfl),show yu 50 x.n x.s (innB x)=be 8 x.n by simp[yu],e]
 | have e:=qZ 8 (.inr (.inr (.inr rfl))) x.n Wq rest
   rw[show((8:Nat):Int)=8 from rfl]at e;rw[if_neg WJ,if_neg WJ,if_pos (.inr rfl),show yu 49 x.n x.s (innB x)=be 8 x.n by simp[yu],e]
 simp only[Bool.false_eq_true,if_false];rw[a1,a2,a3]at hx
 rw[pJ a2,←hx]):p:=h
theorem Z2n_(h:p:=by
 first
 | have qqc2:=qqc2
   have d1:¬(xc:Int)=(ch:Int):=by omega
   have d2:((xc:Int)==(ch:Int))=false:=by simp;omega
 | subst e1
   (have d1:¬(xt:Int)=(tr:Int):=by omega);have d2:((xt:Int)==(tr:Int))=false:=by simp;omega
 clear rI d0;go_upto_region 5 with fail;try simp only[Act.put]
 go_quiet(fail);have dM:=za hB nq;clear k0 k1 k2 k3 k4 k5 k6 k7 g0;go_wp2_with(with_reducible refine h_A ?_)
 exact⟨⟨k+1,m,c2,A2,by omega,by go_num,rfl,by omega,by rw[HF.out];exact hO.drewN nq,hG.below (za (Below.refl _ _) nq),hX.below (za (Below.refl _ _) nq),Oh,dM⟩,by simp[RowKit.intOf];omega⟩):p:=h
theorem Z2o_(h:p:=by
 cases l with
 | nil=>exact absurd rfl hne
 | cons f r=>
  first|(have qqc8:=qqc8;have hb:=h f rfl)|(have hb:=h.first f rfl)
  have h1:zZ (f::r)=r.foldl xE (xE [] f):=rfl
  have hl:∀(r:List Fr) (s:List Sg),s≠ []→r.foldl xE s≠ []:=by
   intro r
   induction r with
   | nil=>intro s h;exact h
   | cons g r ih=>
    intro s hs;(refine ih _ fun e=>hs ?_);have:=congrArg List.length e;rw[xE,jP]at this;split at this
    ·simp at this
    simpa using this
  rw[h1];refine hl r _ ?_
  simp[xE,hb,vZ]):p:=h
theorem Z2p_(h:p:=by
 first|(have qqca:=qqca;clear hb)|(have ge:(e !=0)=true:=by simpa using hb)
 go_enter func160,ntmps160;go_wp2_with(with_reducible refine h_B ?_);refine zc (zm (v:=.bool true) (vs:=[.bool true]) rfl rfl rfl rfl cU rfl Wj Wz wX #[.slice A n c,.bool true] Wz ?_);intro w2 bE Hm _;have c1:=bE.c1;go_wp2_with(with_reducible refine h_A ?_);go_end0
 exact⟨rfl,⟨A,n,c,bE,hr.grown Hm Wq Wx,hn⟩,Hm⟩):p:=h
theorem Z2q_(h:p:=by
 first
 | have qqcb:=qqcb
   unfold Own World.ownsRow at h ⊢
   obtain⟨hl,h1⟩:=h
 | have hF:∀g,FB base A wr g→FB base A wr' g:=fun g hg=>⟨hg.1,Nat.lt_of_lt_of_le hg.2.1 hs,hg.2.2⟩
   refine⟨?_,fun p hp=>((h.el p hp).keep (fun g hg=>hk g hg.1 hg.2.1) hs).mono hF⟩;have ho:=h.own;unfold Own World.ownsRow at ho ⊢;obtain⟨hl,h1⟩:=ho
 refine⟨hl,h1.imp id ?_⟩;rintro⟨g,cap,cur,hv,hb,hh,hr⟩
 exact⟨g,cap,cur,hv,hb,(hk g hb (Array.getElem?_eq_some_iff.1 hh).1).trans hh,hr⟩):p:=h
theorem Z2r_(h:p:=by
 first|(have qqcf:=qqcf;have cM:Hid (v.list.any (xJ m)=true):=Lib.hid Nq)|(have cM:Hid ((v.list.drop (i+1)).any (xJ m)=v.list.any (xJ m)):=Lib.hid Nq)
 rw[hp]at h1;clear hp;go_wp2_with(with_reducible refine h_A ?_);refine h1.mono ?_;rintro e w3 ⟨rfl,Hh⟩;have nD:=hB.trans (Hh.mono hB.size);clear h1 k0 k1 k2 k3 k4 c4;go_wp2_with(with_reducible refine h_A ?_)
 first
 | have qqcf:=qqcf
   go_ret;rw[cM.out]
   exact⟨rfl,nD⟩
 | exact⟨⟨i+1,by omega,by go_num,cM,hX.below Hh,nD⟩,by simp[RowKit.intOf];omega⟩):p:=h
theorem Z6t_(h:p:=by
 go_wp2_with(with_reducible refine h_A ?_);go_ret;rw[HF.out]
 exact⟨rfl,hB⟩):p:=h
theorem Z50_(h:p:=by
 go_upto_region 1 with fail;rw[←Hg,←Hi,BU,←dE];clear Hg Hi BU dE
 exact Z6t_):p:=h
theorem Z2s_(h:p:=by
 first
 | have qqck:=qqck
   (have g1:((v.kind:Int)==(u.kind:Int))=false:=by simp;omega);clear G7;clear mG bR ih;have HF:Hid (yJ v u=false):=Lib.hid (by rw[qs];simp[hk]);clear hk
   go_enter func126,ntmps126
 | have qqcj:=qqcj
   (have g1:((v.kind:Int)!=(u.kind:Int))=true:=by simp;omega);clear ih lT Ab fj rj BF dm;have HF:Hid (yJ v u=false):=Lib.hid (by rw[qs];simp[hk]);clear hk
   go_enter func93,ntmps93
 | have qqci:=qqci
   (have g2:((v.n:Int)==(u.n:Int))=false:=by simp;omega);clear G7 hk;clear mG bR ih;have HF:Hid (yJ v u=false):=Lib.hid (by rw[qs];simp[hn]);clear hn
   go_enter func126,ntmps126
 | have qqch:=qqch
   (have g2:((v.n:Int)!=(u.n:Int))=true:=by simp;omega);clear ih lT Ab fj rj BF dm;have HF:Hid (yJ v u=false):=Lib.hid (by rw[qs];simp[hn]);clear hk hn
   go_enter func93,ntmps93
 | have qqcg:=qqcg
   (have g5:((v.list.length:Int)!=(u.list.length:Int))=true:=by simp;omega);clear ih lT Ab fj rj BF dm;have HF:Hid (yJ v u=false):=Lib.hid (by rw[qs];rw[ZG fD];simp);clear hk hn hs iN fD
   go_enter func93,ntmps93
 | have g4:((v.keys.length:Int)!=(u.keys.length:Int))=true:=by simp;omega
   clear ih lT Ab fj rj BF dm;have HF:Hid (yJ v u=false):=Lib.hid (by rw[qs];have:v.keys≠u.keys:=fun e=>iN (by rw[e]);simp[this]);clear hk hn hs iN;go_enter func93,ntmps93
 exact Z50_):p:=h
theorem Z2t_(h:p:=by
 first|(have qqcl:=qqcl;have HF:Hid (xu v.list u.list=false):=Lib.hid Nx)|(have cM:Hid (xu (v.list.drop (i+1)) (u.list.drop (i+1))=xu v.list u.list):=Lib.hid Nx)
 rw[hs]at h1;clear hs;go_wp2_with(with_reducible refine h_A ?_);refine h1.mono ?_;rintro e w3 ⟨rfl,Hh⟩;clear h1 c0 c1 c2 c3 c4 d0 d1 d2 d3 d4;go_wp2_with(with_reducible refine h_A ?_)
 first
 | have qqcl:=qqcl
   go_ret;rw[HF.out]
   exact⟨rfl,nD.trans (Hh.mono nD.size)⟩
 | exact⟨⟨i+1,by omega,by go_num,nD.trans (Hh.mono nD.size),cM⟩,by simp[RowKit.intOf];omega⟩):p:=h
theorem Z5e_(h:p:=by
 rintro e w1 ⟨rfl,h1,bM⟩;go_wp2_with(with_reducible refine h_A ?_);go_ret
 exact⟨none,0,rfl,Own.none_ _ _ _ _,h1,bM⟩):p:=h
theorem Z2u_(h:p:=by
 first
 | have qqcn:=qqcn
   rw[jg (.inr (.inl sk))]
 | have qqcm:=qqcm
   subst ei
   rw[jg (.inl rfl)]
 | rw[jg (.inr (.inr bQ))]
 go_enter func53,ntmps53;go_wp2_with(with_reducible refine h_A ?_);refine(yD h).mono ?_
 first
 | done
 | have qqcn:=qqcn
 | have qqcm:=qqcm
 | rintro e w' ⟨rfl,rfl⟩
   go_wp2_with(with_reducible refine h_A ?_);refine(yN h).mono ?_
 rintro e w' ⟨rfl,rfl⟩;go_wp2_with(with_reducible refine h_A ?_);refine(xk h).mono ?_
 exact Z5e_):p:=h
theorem Z4r_(h:p:=by
 clear cR oq o8 sw bP hd hn;go_wp2_with(with_reducible refine h_A ?_);refine gY.mono ?_;rintro e w5 ⟨rfl,rfl⟩;go_wp2_with(with_reducible refine h_A ?_);rw[B2.out]
 exact⟨rfl,rfl,eR⟩):p:=h
theorem Z2v_(h:p:=by
 first
 | have qqcv:=qqcv
   have B2:Hid (r=none):=Lib.hid (by rw[HR.out,if_pos (.inl rfl)])
   have gY:=xR cV me true (.inr rfl)
 | have B2:Hid (r=none):=Lib.hid (by rw[HR.out,if_pos (.inr (.inr Pz))])
   have BN:decide ((CN:Int)<200)=false∨b3=true:=.inl (decide_eq_false Wq);clear Bm Pz HR i9;have gY:=xR cV me _ BN
 exact Z4r_):p:=h
theorem Z2w_(h:p:=by
 first
 | have qqcw:=qqcw
   subst h0
 | have h6:((M.st:Nat):Int)=5:=by omega
   rw[h6]at c0;clear h6
 go_wp2_with(with_reducible refine h_B ?_);go_end0;first|(have qqcw:=qqcw;have nc:L.frames ctl FS 0=M:=by unfold LS.frames;rw[HG.out,if_neg (fun e=>e.1 rfl)])|(have nc:L.frames ctl FS er=M:=by unfold LS.frames;rw[HG.out,if_neg (fun e=>e.2 h5)])
 exact⟨rfl,RA',by rw[nc];exact LStep.of dQ (fun _ e=>.inl e) (fun _ e=>.inl e) iX,Rd.more (qu iL hk' (Nat.le_refl _) Fu) hk'.1,(by first|exact dI|simpa using dI)⟩):p:=h
theorem Z2x_(h:p:=by
 have g3:decide (v.s=u.s)=false:=by simpa using hs
 first
 | have qqcx:=qqcx
   rw[g3]at bR
   clear g3 mG G7 ih hk hn
 | rw[g3]at bR dG
   simp only[Bool.not_false]at bR
 have HF:Hid (yJ v u=false):=Lib.hid (by rw[qs];simp[hs])
 first
 | have qqcx:=qqcx
   clear hs
   go_enter func126,ntmps126
 | clear g3 ih lT Ab fj rj hs hk hn BF dm
   go_enter func93,ntmps93
 exact Z50_):p:=h
theorem Z2y_(h:p:=by
 first
 | have qqd0:=qqd0
   rw[if_pos rfl]
 | have qqcz:=qqcz
   rw[if_neg Wz]
 | rw[if_neg Wz]
   clear g1;(have k1:((ty:Int)==(tr:Int))=decide (ty=tr):=by rw[Bool.eq_iff_iff];simp;omega);have k2:((tr:Int)==1)=decide (tr=1):=by rw[Bool.eq_iff_iff];simp;omega
 go_enter func82,ntmps82;go_wp2_with(with_reducible refine h_A ?_)
 all_goals
  go_ret
  exact⟨by simp_all,((Below.refl _ _).alloc (Nat.le_refl _) _).alloc Wz _⟩):p:=h
theorem Z2z_(h:p:=by
 first
 | have qqd4:=qqd4
   rw[dk]at px;have HF:=Lib.hid (vf Ot.out (qA dk))
   clear dk
 | have Gi:(R:Int)<12:=by omega
   have HF:=Lib.hid (vf Ot.out (xa dk gi));clear dk gi
 go_wp2_with(with_reducible refine h_A ?_);refine px.mono ?_;rintro e w1 ⟨rfl,Ha⟩;have Hc:=bO.trans (Ha.mono hz);have bW:=zi ho Ha;go_wp2_with(with_reducible refine h_A ?_);go_ret3;rw[HF.out];simp only[List.append_nil,Nat.add_zero];rw[ln.out]
 exact⟨A2,c2,rfl,bW,Hc⟩):p:=h
theorem Z4y_(h:p:=by
 go_upto_region 9 with fail;try simp only[Act.put]
 go_quiet(fail);go_wp2_with(with_reducible refine h_B ?_);go_ret
 exact⟨by rw[HV.out];rfl,za bO _⟩):p:=h
theorem Z30_(h:p:=by
 first|(have qqd6:=qqd6;have d3:(1:Int)<(tr:Int):=by omega)|(have d2:((t0:Int)!=(tr:Int))=true:=by simp;omega)
 have HV:Hid (xP ⟨ch,tr,l⟩=70):=Lib.hid (by
  have:jN ⟨ch,tr,l⟩=false:=by rw[HH.out];simp;omega
  simp[xP,asOk,this])
 first|done|(have qqd6:=qqd6)|(clear c1)
 exact Z4y_):p:=h
theorem Z31_(h:p:=by
 have g2:decide (a=b2)=false:=by simpa using ez
 rw[g2]at Br Bz
 first
 | have qqda:=qqda
   have HF:Hid (decide (K=K')=false):=Lib.hid (decide_eq_false fun e=>ez (HX.out e))
   clear g2 ez
 | have HF:Hid (decide (v.keys=u.keys)=false):=Lib.hid (decide_eq_false fun e=>ez (HX.out e))
   clear g2 ez BF dm
 simp only[Bool.not_false]at Bz;go_wp2_with(with_reducible refine h_A ?_);go_quiet(fail);go_wp2_with(with_reducible refine h_A ?_);go_ret;rw[HF.out]
 first|(have qqda:=qqda;exact⟨rfl,za hB _⟩)|(exact⟨rfl,za Hh _⟩)):p:=h
theorem Z32_(h:p:=by
 have g1:¬(i:Int)<(n:Int):=by omega
 have HE:Hid (FS=D):=Lib.hid (by rw[HC.out,List.drop_eq_nil_of_le NZ];simp[cutL]);have wo:=HD.out;rw[←HE.out]at hO wo;have ln:=Lib.hid wo;clear wo HD HC BF;go_wp2_with(with_reducible refine h_A ?_);go_ret2;rw[ln.out]
 first|(have qqdc:=qqdc;exact⟨A2,c2,rfl,hO.base_le Wq,bO⟩)|(exact⟨A2,c2,rfl,Own.base_le hO Wq,bO⟩)):p:=h
theorem Z33_(h:p:=by
 first|(have qqdg:=qqdg;have e1:yP most a=2:=by simp[yP,c2])|(have qqdf:=qqdf;have e1:yP most a=2:=by simp[yP,c1])|(have qqde:=qqde;have e1:yP most a=2:=by simp[yP,c2])|(have e1:yP most a=2:=by simp[yP,c1])
 have e2:cutF most a=[]:=by simp[cutF,e1]
 rw[e1,e2];clear e1 e2 Ba hX;unfold asV at*
 first
 | have qqdg:=qqdg
   go_enter func47,ntmps47
 | have qqdf:=qqdf
   go_enter func47,ntmps47
 | go_enter func44,ntmps44
   go_wp2_with(with_reducible refine h_A ?_);go_step3
 go_wp2_with(with_reducible refine h_A ?_);first|done|(have qqdg:=qqdg)|(have qqdf:=qqdf)|(rw[Exit.noGoto_ret])
 go_ret2
 exact⟨none,0,rfl,Own.none_ _ _ _ _,by rw[←bh];exact Hr⟩):p:=h
theorem Z34_(h:p:=by
 first
 | have qqdk:=qqdk
   (have g1:(a.is==b.is)=false:=by simpa using h1);have HF:Hid (zw a b=false):=Lib.hid (by rw[HS.out];simp[h1])
   clear h1 HS cO wW r9 nk
 | have qqdj:=qqdj
   (have g2:((a.n:Int)==(b.n:Int))=false:=by simp;omega);have HF:Hid (zw a b=false):=Lib.hid (by rw[HS.out];simp[h2])
   clear h1 h2 HS cO wW r9 nk
 | have qqdi:=qqdi
   simp only[decide_eq_false h4]at r9;have HF:Hid (zw a b=false):=Lib.hid (by rw[HS.out];simp[h4])
   clear h1 h2 h3 h4 HS cO wW
 | rw[decide_eq_false h3]at bR dG
   simp only[Bool.not_false]at dG;have HF:Hid (zw a b=false):=Lib.hid (by rw[HS.out];simp[h3]);clear h1 h2 h3 HS cO wW r9 nk
 go_enter func106,ntmps106
 exact Z50_):p:=h
theorem Z35_(h:p:=by
 first
 | have qqdo:=qqdo
   have d1:¬(tr:Int)=1:=by omega
 | have qqdn:=qqdn
   have d6:¬(t1:Int)=3:=by omega
 | have qqdm:=qqdm
   subst b0
 | have qqdl:=qqdl
   have d3:(3:Int)<(i:Int):=by omega
   have d4:¬(i:Int)<1:=by omega
 | have d5:¬(t0:Int)=1:=by omega
   (have d3:¬(3:Int)<(i:Int):=by omega);(have d4:¬(i:Int)<1:=by omega);have d6:(0:Int)<(i:Int):=by omega
 exact Z4v_):p:=h
theorem Z36_(h:p:=by
 refine BigFrame.wpList_want hw fun K hK=>?_
 first|(have qqdp:=qqdp;obtain⟨w',bv,h2,h3⟩:=Qd hT o.type Hl hr h1 fP Hf)|(obtain⟨A2,c2,w',bv,h2,h3,h4⟩:=KA hT o.type Hl hr h1 Bm Dd Hf)
 unfold Oper.wp execOp;simp only[ho,resolve,invoke,builtin,Sem.run_bind,Sem.run_pure,Result.andThen_ok,List.map_toArray,List.map_cons,List.map_nil,hs,hx,bv]
 first|(have qqdp:=qqdp;exact hK _ _ (h w' h2 h3))|(exact hK _ _ (h A2 c2 w' h2 h3 h4))):p:=h
theorem Z6s_(h:p:=by
 go_wp2_with(with_reducible refine h_A ?_);go_ret;rw[←HQ.out]
 exact⟨rfl,hB⟩):p:=h
theorem Z37_(h:p:=by
 first|(have qqdq:=qqdq;have hi:=za5 p bx v h w hv bD)|(have hi:=zcn p bx v h w hv bD)
 generalize v.list.any p=r at*;clear bD;go_enter func171,ntmps171;go_wp2_with(with_reducible refine h_A ?_);refine hi.mono ?_;rintro e w' ⟨⟨q,rfl,hq⟩,hB⟩;have HQ:=Lib.hid hq;clear hq
 exact Z6s_):p:=h
theorem Z38_(h:p:=by
 intro wS He;have k:=He.2;have q0:=k.cell (j:=0) rfl;have q1:=k.cell (j:=1) rfl;have q2:=k.cell (j:=2) rfl;have q3:=k.cell (j:=3) rfl;have q4:=k.cell (j:=4) rfl;have q5:=k.cell (j:=5) rfl;have q6:=k.cell (j:=6) rfl;have q7:=k.cell (j:=7) rfl;go_simp;(with_reducible rfl)):p:=h
theorem Z39_(h:p:=by
 first
 | have qqdt:=qqdt
   (have d1:decide ((12:Int)≤256*(x:Int)+(y:Int))=false:=by simp;omega);have HV:=hW false (by simp[h1])
   clear h1 hW
 | have qqds:=qqds
   (have d2:256*(x:Int)+(y:Int)≤4096:=by omega);have HV:=hW true (by simp[h1,h2])
   clear h1 h2 hW
 | have d2:decide (256*(x:Int)+(y:Int)≤4096)=false:=by simp;omega
   have HV:=hW false (by simp[h1,h2]);clear h1 h2 hW
 go_enter func75,ntmps75;go_wp2_with(with_reducible refine h_A ?_);go_quiet(fail);go_wp2_with(with_reducible refine h_A ?_);go_ret;rw[HV.out]
 exact⟨rfl,_,rfl⟩):p:=h
theorem Z3a_(h:p:=by
 obtain⟨U',T',h1,h2,h3,h4⟩:=h;have hz:=hk.1;refine⟨U',T',h1,hk.trans h2 hU,fun k hk'=>?_,fun k hk'=>?_⟩
 ·rcases h3 k hk' with e|e
  ·exact hU k e
  exact .inr Wq
 rcases h4 k hk' with e|e|e
 ·exact hT k e
 ·exact .inr (hU k e)
 exact .inr (.inr Wq)):p:=h
theorem Z3b_(h:p:=by
 rw[hu]at ek;have HF:Hid (xC K zJ=false):=Lib.hid (mL.out (by rw[mO.out,hu]));clear hu;go_wp2_with(with_reducible refine h_A ?_);refine ek.mono ?_;first|(have qqdw:=qqdw;(rintro e w2 ⟨rfl,rfl⟩))|((rintro e w2 ⟨rfl,Hc⟩))
 clear ek y0;go_wp2_with(with_reducible refine h_A ?_);go_ret;rw[HF.out]
 first|(have qqdw:=qqdw;exact⟨rfl,hB⟩)|(exact⟨rfl,hB.trans (Hc.mono hB.size)⟩)):p:=h
theorem Z3c_(h:p:=by
 first
 | have qqe0:=qqe0
   rw[jg (.inr (.inl sk))]
 | have qqdz:=qqdz
   subst ei
   rw[jg (.inl rfl)]
 | have Tl:(n:Int)<x:=by omega
   rw[jg (.inr (.inr bQ))]
 go_enter func164,ntmps164;go_wp2_with(with_reducible refine h_A ?_);refine(xN h').mono ?_
 exact Z5e_):p:=h
theorem Z3d_(h:p:=by
 first
 | done
 | have qqe2:=qqe2
 | have qqe1:=qqe1
   have d1:(10:Int)<(n2:Int):=by omega
   clear t1
 | have d2:(400:Int)<(text.length:Int):=by omega
   clear t2
 have hh:=km w0 (HE.out.on Hr);go_wp2_with(with_reducible refine h_A ?_);refine hh.mono ?_;rintro e w9 ⟨rfl,Bh⟩;go_wp2_with(with_reducible refine h_A ?_);go_ret
 exact⟨rfl,(Hr).trans (Bh.mono (Hr).size)⟩):p:=h
theorem Z6j_(h:p:=by
 exact Z6t_):p:=h
theorem Z3e_(h:p:=by
 have HF:Hid (xC K zJ=false):=Lib.hid (mL.out (by rw[tG.out,decide_eq_false (by omega:¬a.length≤255)];simp));have g2:(255:Int)<(a.length:Int):=by omega
 first|(have qqe3:=qqe3;clear ek)|(clear Eh ek)
 exact Z6j_):p:=h
theorem Z3f_(h:p:=by
 have HF:Hid (xC K zJ=false):=Lib.hid (mL.out (by rw[tG.out,decide_eq_false (by omega:¬1≤a.length)];rfl))
 first
 | have qqe7:=qqe7
   rw[decide_eq_true Eh]at fU
   clear Eh ek
 | have g2:(a.length:Int)<1:=by omega
   clear ek
 exact Z6j_):p:=h
theorem Z3g_(h:p:=by
 have hg:¬yI m=true:=by
  unfold yI;rw[Bool.and_eq_true];rintro⟨_,ha⟩;have:=List.all_eq_true.1 ha i (List.mem_range.2 hi);rw[BN]at this
  cases this
 first|done|(have qqea:=qqea)|(rw[eO,hE])
 unfold putM errM;rw[if_neg hg,if_neg hg]
 exact⟨rfl,rfl⟩):p:=h
theorem Z3h_(h:p:=by
 first|done|(have qqef:=qqef)|(have qqee:=qqee;subst h)|(have h:=zbS h)
 simp[Op.eqFields,part,run_equalIn_int _ 9998 71 .u32 .u32 _ _ underlying71,run_equalIn_string _ 9998 9 _ _ underlying9,h,Result.andThen,typeInfo,sizeOf]
 first
 | done
 | have qqef:=qqef
   omega
 | have qqee:=qqee
 | have qqed:=qqed
   rw[zn,zn]at h
   simpa using h
 | rw[zn,zn]at h
   intro q
   simp[q]at h):p:=h
theorem Z3i_(h:p:=by
 first
 | have qqeh:=qqeh
   rw[show((t1:Nat):Int)=2 by omega]at z1
 | have qqeg:=qqeg
   subst b1
 | rw[show((t1:Nat):Int)=3 by omega]at z1
   clear d5
 exact Z4z_):p:=h
theorem Z3j_(h:p:=by
 first|done|(have qqei:=qqei)|(rw[jx]at hg)
 have h1:=pT g hg;refine⟨⟨h1.1.1,Nat.lt_of_lt_of_le h1.1.2 Bt.1⟩,fun e=>?_,fun e=>e,h1.2.2.2⟩;rcases e with e|e|e
 ·exact h1.2.1 e
 ·exact h1.2.2.1 e
 have:=B0 g e;omega):p:=h
theorem Z3l_(h:p:=by
 have g1:(i:Int)<(n:Int):=by omega
 obtain⟨b,off,rfl,dP,bK,bD⟩:=BF hlt;first|(have qqeq:=qqeq;have bR:=Qj (n:=m) bK)|(skip)
 have gc:b<w.heap.size:=by omega
 have k0:wr.cell? ⟨b,off+i*2,none⟩=some (.int .u8 (l[i].ty:Int)):=(bO.cell (p:=⟨b,off+i*2,none⟩) gc).trans (bD 0 _ rfl);have k1:wr.cell? ⟨b,off+i*2+1,none⟩=some (.string (str l[i].load)):=(bO.cell (p:=⟨b,off+i*2+1,none⟩) gc).trans (bD 1 _ rfl);have mr:=CY.out _ (List.getElem_mem bK)
 first
 | have qqeq:=qqeq
   have mS:=Se.out _ (List.getElem_mem bK);rw[←HC.out]at bR;have mY:=Lib.hid bR
   clear bR bD
 | have mS:=Nat.le_trans (kQ (List.getElem_mem bK)) mT.out
   have cM:Hid (FS=D++(cutN M ⟨decide (i=0),decide (i+1=n),true,false,l[i].ty,tr,ch,[]⟩ l[i].load++cutL M ch tr n (i+1) (l.drop (i+1)))):=Lib.hid (by rw[HC.out,List.drop_eq_getElem_cons bK,Zk]);clear bD HC
 generalize l[i]=s at*
 first
 | done
 | have qqeq:=qqeq
 | obtain⟨T,hT⟩:∃T,T=cutL M ch tr n (i+1) (l.drop (i+1)):=⟨_,rfl⟩
   rw[←hT]at cM;have HT:=Lib.hid hT;clear hT;(obtain⟨b1,bL⟩:∃b,b=decide (i=0):=⟨_,rfl⟩);(obtain⟨b2,bE⟩:∃b,b=decide (i+1=n):=⟨_,rfl⟩);rw[←bL,←bE]at cM;(have q1:((i:Int)==0)=b1:=by rw[bL,Bool.eq_iff_iff];simp);(have q2:((i:Int)==(n:Int)-1)=b2:=by rw[bE,Bool.eq_iff_iff];simp;omega);clear bL bE
 obtain⟨sb,w2,bC,bh,hS,Hc⟩:=zo wr #[.int .u8 0,.string ⟨#[]⟩] 84;first|(have qqeq:=qqeq;have dr:=zh s.load)|(skip)
 go_wp2_with(with_reducible refine h_B ?_);rw[←bC,←bh]
 first
 | done
 | have qqeq:=qqeq
 | have G8:xb<sb:=by rw[bC];exact hX.lt
   (have Po:wr.heap.size≤sb:=by rw[bC];exact Nat.le_refl _);clear bC bh
 refine zc (zm (v:=.agg #[.int .u8 (s.ty:Int),.string (str s.load)]) (vs:=[.int .u8 (s.ty:Int),.string (str s.load)]) rfl rfl rfl rfl hS rfl Wj Wz WZ #[.int .u8 (s.ty:Int),.string (str s.load)] Wz ?_)
 first
 | have qqeq:=qqeq
   intro w3 dL H7 _;(have G8:w.heap.size≤sb:=by rw[bC];exact bO.size);have tp:xb≠sb:=by have:=hX.lt;omega
   have bU:=(hX.below Hc).grown H7 (by intro e;injection e with e;exact tp e)
 | intro w3 dL H7 en
   clear en;have bU:=(hX.below Hc).grown H7 (sne Wq);have eN:=zk (zi hO Hc) H7 (fun g hg e=>by injection e with e;have:=(hO.blk_lt hg).2;omega)
 have Hh:Below w.heap.size w w3:=(bO.trans (Hc.mono bO.size)).grown H7 (Nat.le_trans bO.size Hc.size) Wx
 first
 | have qqeq:=qqeq
   clear hS H7 Hc x0 x1 x2 k0 k1 bC bh
 | clear hS H7 Hc hO x0 x1 x2 k0 k1 bO hX Po
   have x0:=bU.c0;have x1:=bU.c1
 have x2:=bU.c2;have s0:=dL.c0;have s1:=dL.c1
 first
 | have qqeq:=qqeq
   have fw:IntKind.i64.wrap ((16384:Int)-(m:Int))=(16384:Int)-(m:Int):=IntWalk.i64_in _ ⟨by omega,by omega⟩;by_cases c1:3<s.ty
   ·have qqlb:=();exact Z4f_
   ·(have d1:decide ((3:Int)<(s.ty:Int))=false:=by simp;omega);rcases Nat.eq_zero_or_pos i with rfl|nA
    ·have qq6x:=();exact Z15_
    exact Z15_
 | obtain⟨fb,w4,bC,bh,hF,Hn⟩:=zo w3 #[.bool false,.bool false,.bool false,.bool false,.int .u8 0,.int .u8 0,.int .u16 0,.string ⟨#[]⟩] 97
   go_wp2_with(with_reducible refine h_B ?_);rw[←bC,←bh];(have Ob:xb<fb:=by rw[bC];exact bU.lt);(have DA:sb<fb:=by rw[bC];exact dL.lt);(have nR:w3.heap.size≤fb:=by rw[bC];exact Nat.le_refl _);clear bC bh;refine zc (zm (v:=.agg #[.bool b1,.bool b2,.bool true,.bool false,.int .u8 (s.ty:Int),.int .u8 (tr:Int),.int .u16 (ch:Int),.string ⟨#[]⟩]) (vs:=[.bool b1,.bool b2,.bool true,.bool false,.int .u8 (s.ty:Int),.int .u8 (tr:Int),.int .u16 (ch:Int),.string ⟨#[]⟩]) rfl rfl rfl rfl hF rfl Wj Wz WZ #[.bool b1,.bool b2,.bool true,.bool false,.int .u8 (s.ty:Int),.int .u8 (tr:Int),.int .u16 (ch:Int),.string ⟨#[]⟩] Wz ?_);intro w5 iW bc en;clear en;have BZ:=(bU.below Hn).grown bc (sne Wq);have BL:=(dL.below Hn).grown bc (sne Wq);have gA:=zk (zi eN Hn) bc (fun g hg e=>by injection e with e;have:=(eN.blk_lt hg).2;omega);(have Dn:∀g,blk A2=some g→g≠fb:=fun g hg e=>by have:=(eN.blk_lt hg).2;omega);have bz:Below w.heap.size w w5:=(Hh.trans (Hn.mono Hh.size)).grown bc (Nat.le_trans Hh.size Hn.size) Wx;clear hF bc Hn eN x0 x1 x2 s0 s1 Hh bU dL;clear nR;have s1:=BL.c1;go_wp2_with(with_reducible refine h_B ?_);have lX:=gA;have WH:=hN
   go_loopw [7,11] (fun s7 us wr=>∃(N c2:Nat) (A2:Option Addr) (D:List Fr) (rest:List UInt8) (bg fi:Bool) (pl:List UInt8),s7= .slice A2 N c2∧us= .string (str rest)∧N≤16388∧rest.length≤16384∧Hid (D.length=N)∧Hid (FS=D++(cutN M ⟨b1,b2,bg,false,s.ty,tr,ch,[]⟩ rest++T))∧OwnF wr (xb+1) A2 N c2 D∧(∀g,blk A2=some g→g≠fb)∧
    Box wr xb 42 #[.int .u16 (ch:Int),.int .u8 (tr:Int),.slice (some ⟨b,off,none⟩) n c]∧Box wr fb 97 #[.bool b1,.bool b2,.bool bg,.bool fi,.int .u8 (s.ty:Int),.int .u8 (tr:Int),.int .u16 (ch:Int),.string (str pl)]∧Below w.heap.size w wr) (fun _ us _=>Qi us)
   case atStart=>exact⟨N,c2,A2,D,s.load,true,false,[],rfl,rfl,hN,mS,HD,cM,lX,Dn,BZ,iW,bz⟩
   case round=>
    clear lX gA WH hN HD cM Dn BZ iW bz BL s1 mS G8 DA;obtain⟨N,c2,A2,D,rest,bg,fi,pl,rfl,rfl,hN,im,HD,HC,hO,Dn,hX,hF,bO⟩:=hrel;(obtain⟨R,hR⟩:∃R,R=rest.length:=⟨_,rfl⟩);(have dr:(str rest).size=R:=by rw[hR];exact zh rest);(have Do:R≤16384:=by omega);(obtain⟨K,hK⟩:∃K,K=min M R:=⟨_,rfl⟩);(have rz:(if R<M then(R:Int)else(M:Int))=(K:Int):=by split<;>omega);(have m9:min (M:Int) (R:Int)=(K:Int):=by omega);(have hKR:K≤R:=by omega);(have lP:R≤rest.length:=by omega);(have hhs:rest.length≤R:=by omega);have HK:=Lib.hid hK;have iV:=Lib.hid hR;clear hR hK;go_upto_region 14 with fail;refine zt (fun W:World=>True) Wj ?_;have hS:True:=trivial;have Bp:Box wr.drew xb 42 #[.int .u16 (ch:Int),.int .u8 (tr:Int),.slice (some ⟨b,off,none⟩) n c]:=hX;have Um:Box wr.drew fb 97 #[.bool b1,.bool b2,.bool bg,.bool fi,.int .u8 (s.ty:Int),.int .u8 (tr:Int),.int .u16 (ch:Int),.string (str pl)]:=hF;have lE:OwnF wr.drew (xb+1) A2 N c2 D:=hO;have Bq:Below w.heap.size w wr.drew:=za bO 1;clear hX hF hO bO;generalize wr.drew=w7 at*;refine rg_t 0 hS ?_;simp only[List.getElem_toArray,List.getElem_cons_zero,Act.put,List.setIfInBounds_toArray,List.set_cons_zero,List.set_cons_succ];refine rg_t 1 hS ?_;simp only[g_S];refine ze 2 (v:=?_) rfl Wj Wj Wj hS rfl ?_ ?_;rotate_left
    ·intro wS He;rw[qM (x:=.tmp 54) (lo:=none) (hi:=some<| .tmp 55) underlying9 (l:=rest) (i:=0) (j:=K)]<;>first|rfl|omega|exact .inl ⟨rfl,rfl⟩|exact .inr ⟨_,_,rfl,rfl⟩
    simp only[g_S];refine rg_t 3 hS ?_;simp only[g_S];refine rg_t 4 hS ?_;simp only[g_S];refine ze 5 (v:=?_) rfl Wj Wj Wj hS rfl ?_ ?_;rotate_left
    ·intro wS He;rw[qM (x:=.tmp 57) (lo:=some<| .tmp 58) (hi:=none) underlying9 (l:=rest) (i:=K) (j:=rest.length)]<;>first|rfl|omega|exact .inl ⟨rfl,rfl⟩|exact .inr ⟨_,_,rfl,rfl⟩
    simp only[g_S];simp only[List.drop_zero,List.take_length];(obtain⟨PC,uK⟩:∃q,q=rest.take K:=⟨_,rfl⟩);(obtain⟨RS,sY⟩:∃q,q=rest.drop K:=⟨_,rfl⟩);rw[←uK,←sY];(have LQ:RS.length=R-K:=by rw[sY,List.length_drop,←iV.out]);have GG:=Lib.hid uK;have wM:=Lib.hid sY;clear uK sY;refine rg_t 6 hS ?_;simp only[g_S];refine zj 7 rfl Wj rfl (fun K1 bB=>?_);refine zK (g:=fb) (j:=7) (v:=.string (str PC)) (vs:=[.string (str PC)]) rfl rfl rfl Um rfl Wj Wz WZ #[.bool b1,.bool b2,.bool bg,.bool fi,.int .u8 (s.ty:Int),.int .u8 (tr:Int),.int .u16 (ch:Int),.string (str PC)] Wz ?_;intro w8 dz H5 en;clear en;have cp:=Bp.grown H5 (sne Wq);have Gv:=zk lE H5 (fun g hg e=>by injection e with e;exact Dn g hg e.symm);have Be:Below w.heap.size w w8:=Bq.grown H5 Bq.size Wx;refine bB _ _ hS ?_;clear bB K1 hS Bp Um lE Bq H5;(try simp only[g_S]);have hS:True:=trivial;refine rg_t 8 hS ?_;simp only[g_S];refine zD Wj ?_;clear w7;obtain⟨fin,gv⟩:∃q,q=decide (R≤M):=⟨_,rfl⟩
    have hq:(str RS).toList.isEmpty=fin:=by
     rw[zn,gv,Bool.eq_iff_iff];have:=HK.out
     cases RS with
     | nil=>simp at LQ ⊢;omega
     | cons x r=>simp at LQ ⊢;omega
    have sQ:=Lib.hid gv;clear gv;go_wp2_with(with_reducible refine h_B ?_);refine zc (zm (j:=3) (v:=.bool fin) (vs:=[.bool fin]) rfl rfl rfl rfl dz rfl Wj Wz WZ #[.bool b1,.bool b2,.bool bg,.bool fin,.int .u8 (s.ty:Int),.int .u8 (tr:Int),.int .u16 (ch:Int),.string (str PC)] Wz ?_);intro w9 u1 du en;clear en;have lu:=cp.grown du (sne Wq);have Om:=zk Gv du (fun g hg e=>by injection e with e;exact Dn g hg e.symm);have Bh:Below w.heap.size w w9:=Be.grown du Be.size Wx;clear cp Gv Be dz du;clear w8;have f0:=u1.c0;have f1:=u1.c1;have f2:=u1.c2;have f3:=u1.c3;have f4:=u1.c4;have f5:=u1.c5;have f6:=u1.c6;have f7:=u1.c7;have I8:=u1.lt;go_wp2_with(with_reducible refine h_B ?_);refine zc (jS yE slF underlying65 rfl rfl rfl rfl rfl (⟨b1,b2,bg,fin,s.ty,tr,ch,PC⟩:Fr) rfl Om Wq Wq (by have:=lu.lt;omega) ?_);intro A3 c3 wa uy cL mh _
    have Lk:∀g,blk A3=some g→g≠fb:=fun g hg=>by
     rcases mh with e|e
     ·exact Dn g (by rw[←e];exact hg)
     have:=e g hg;omega
    have nT:=lu.grown cL (fun e=>by have:=(Om.blk_lt e.symm).1;omega);have iO:=u1.grown cL (fun e=>Dn _ e.symm rfl);have hBa:Below w.heap.size w wa:=Bh.grown cL Bh.size (fun g hg=>by have:=(Om.blk_lt hg).1;omega);have AF:Hid ((D++ [(⟨b1,b2,bg,fin,s.ty,tr,ch,PC⟩:Fr)]).length=N+1):=Lib.hid (by have:=HD.out;simp;omega)
    have uG:N+1≤16388:=by
     have h1:=HD.out;have h2:=congrArg List.length HC.out;have h3:=HM.out
     have h4:1≤(cutN M ⟨b1,b2,bg,false,s.ty,tr,ch,[]⟩ rest).length:=by
      have:=zb8 M rest.length ⟨b1,b2,bg,false,s.ty,tr,ch,[]⟩ rest;unfold cutN;exact List.length_pos_iff.2 this
     simp only[List.length_append]at h2;omega
    clear lu Om u1 Bh cL mh Dn f0 f1 f2 f3 f4 f5 f6 f7;have f3:=iO.c3
    cases fin with
    | true=>
     have HE:Hid (FS=(D++ [(⟨b1,b2,bg,true,s.ty,tr,ch,PC⟩:Fr)])++cutL M ch tr n (i+1) (l.drop (i+1))):=Lib.hid (by
      (have gF:R≤M:=by simpa using sQ.out.symm);(have e1:PC=rest:=by rw[GG.out,List.take_of_length_le];have:=HK.out;omega);rw[HC.out,kO (by rw[←iV.out];exact gF),←HT.out,e1]
      simp)
     go_wp2_with(with_reducible refine h_B ?_)
     exact⟨⟨i+1,N+1,c3,A3,_,by omega,rfl,by go_num,uG,AF,HE,uy,nT,hBa⟩,by simp[RowKit.intOf];omega⟩
    | false=>
     have f8:M<R:=by have:=sQ.out;simpa using this
     have HE:Hid (FS=(D++ [(⟨b1,b2,bg,false,s.ty,tr,ch,PC⟩:Fr)])++(cutN M ⟨b1,b2,false,false,s.ty,tr,ch,[]⟩ RS++T)):=Lib.hid (by
      (have hKM:K=M:=by have:=HK.out;omega);rw[HC.out,kP EM (by rw[←iV.out];exact f8),GG.out,wM.out,hKM]
      simp)
     go_wp2_with(with_reducible refine h_B ?_);refine zc (zm (j:=2) (v:=.bool false) (vs:=[.bool false]) rfl rfl rfl rfl iO rfl Wj Wz WZ #[.bool b1,.bool b2,.bool false,.bool false,.int .u8 (s.ty:Int),.int .u8 (tr:Int),.int .u16 (ch:Int),.string (str PC)] Wz ?_);intro wb Fu pw en;clear en;have Dv:=nT.grown pw (sne Wq);have We:=zk uy pw (fun g hg e=>by injection e with e;exact Lk g hg e.symm);have l7:Below w.heap.size w wb:=hBa.grown pw hBa.size Wx;go_wp2_with(with_reducible refine h_B ?_)
     have PV:Qi (.string (str RS))<Qi (.string (str rest)):=by
      (show(str RS).size<(str rest).size);rw[zh,zh,←iV.out];have:=HK.out;omega
     first
      | exact⟨⟨N+1,c3,A3,_,RS,false,false,PC,rfl,rfl,uG,by omega,AF,HE,We,Lk,Dv,Fu,l7⟩,PV⟩
      | (refine⟨?_,PV⟩;(repeat apply Exists.intro);exact⟨⟨N+1,c3,A3,_,RS,false,false,PC,rfl,rfl,uG,by omega,AF,HE,We,Lk,Dv,Fu,l7⟩,rfl⟩)):p:=h
theorem Z6h_(h:p:=by
 go_wp2_with(with_reducible refine h_A ?_);go_meet
 case rel=>exact⟨rfl,rfl⟩):p:=h
theorem Z3n_(h:p:=by
 first
 | have qqf3:=qqf3
   clear hf
 | have Rz:=Lib.hid hf
   unfold kH xz at hf;simp only[Bool.and_eq_true,decide_eq_true_eq]at hf;obtain⟨⟨h1,h2⟩,h3⟩:=hf;rw[h1]at eU;rw[←eg]at h2 sx ft FL
   have iP:Hid ((∀i,i<m.args.length→okI m i=true)→RES=kF m.cls m.code m.sync (zF (m.args.map toSA))++(List.range m.args.length).flatMap (byI m)∧E=0):=Lib.hid fun bJ=>by
    have hg:yI m=true:=by
     unfold yI;rw[Rz.out,Bool.true_and];exact List.all_eq_true.2 fun i hi=>bJ i (List.mem_range.1 hi)
    rw[eO,hE];unfold putM errM;rw[if_pos hg,if_pos hg];exact⟨rfl,rfl⟩
   have cN:Hid (∀i,i<m.args.length→okI m i=false→RES=[]∧E=80):=Lib.hid fun i hi BN=>by
    exact Z3g_
   have D9:Hid (∀i (h:i<m.args.length) (h':i<kd.length) (hx:AH) (W:World),RAw W m.args[i] hx→Calls prog 60 #[.int .u8 (kd[i].toNat:Int),.agg (agV m.args[i] hx)] W (ArgR W (okI m i) (byI m i))):=Lib.hid fun i h h' hx W ha=>by
    (have e1:okI m i=okA kd[i] m.args[i]:=by unfold okI xz;rw[←eg,List.getElem?_eq_getElem h',List.getElem?_eq_getElem h]);(have e2:byI m i=byA kd[i] m.args[i]:=by unfold byI xz;rw[←eg,List.getElem?_eq_getElem h',List.getElem?_eq_getElem h]);rw[e1,e2];exact FL _ (List.getElem_mem h') _ hx W ha
   have GN:Hid (∀i,(byI m i).length≤2000000):=Lib.hid fun i=>by
    unfold byI;split
    ·exact ZD _ _
    simp
   (have BF:=fun(i:Nat) (hi:i<m.args.length)=>hm.elem hi);have tC:=Lib.hid BF;(have Dk:(m.args.map toSA).length=m.args.length:=by simp);(have RR:Hid (∀i (h:i<m.args.length),(m.args.map toSA).drop i=toSA m.args[i]::(m.args.map toSA).drop (i+1)):=Lib.hid fun i h=>by rw[List.drop_eq_getElem_cons Nz];simp);generalize m.args.map toSA=L0 at*;clear FL BF sx eO hE eg h1 BQ nO hm;(obtain⟨n,hn⟩:∃n,n=m.args.length:=⟨_,rfl⟩);rw[←hn]at hX Hi x3 h2 Dk iP cN R7 ⊢;have HN:=Lib.hid hn;clear hn;(have bQ:((n:Int)!=((str kd).size:Int))=false:=by rw[dr,h2];simp);(have De:((n:Int)!=(kd.length:Int))=false:=by rw[h2];simp);(have hM:n≤3:=by omega);(have Rg:n≤kd.length:=by omega);(have PU:kd.length≤n:=by omega);(have AL:L0.length≤n:=by omega);(have SY:n≤L0.length:=by omega);clear h2 Dk;have tG:=Lib.hid ft;(obtain⟨sy,pE⟩:∃s,s=m.sync:=⟨_,rfl⟩);(obtain⟨cls,ij⟩:∃s,s=m.cls:=⟨_,rfl⟩);(obtain⟨cod,sS⟩:∃s,s=m.code:=⟨_,rfl⟩);rw[←pE,←ij]at h3;rw[←pE,←ij,←sS]at iP;rw[←pE,←ij,←sS]at hX Hi;rw[←pE]at x2;rw[←ij]at x0 bD;rw[←sS]at x1 D1;rw[←ij,←sS]at eU;rw[←ij,←sS,←pE];clear pE ij sS ft
 go_enter func43,ntmps43;go_upto_region 1 with fail;rw[←Hg,←Hi];clear Hg Hi;go_wp2_with(with_reducible refine h_A ?_);refine eU.mono ?_;rintro e w2 ⟨rfl,Hc⟩;have Hk:=hX.below Hc;have H3:=Ha.trans (Hc.mono Ha.size);have hz:=Box.new w2 #[.int .u8 0,.int .u8 0,.string ⟨#[]⟩,.string ⟨#[]⟩] 127;have tZ:=Hk.alloc (.cells #[.int .u8 0,.int .u8 0,.string ⟨#[]⟩,.string ⟨#[]⟩] 127);have dc:=H3.alloc H3.size (.cells #[.int .u8 0,.int .u8 0,.string ⟨#[]⟩,.string ⟨#[]⟩] 127);have FE:=Hk.lt;have Du:=H3.size;clear eU x0 x1 x2 x3 hX Ha Hc;go_wp2_with(with_reducible refine h_B ?_);obtain⟨rb,da⟩:∃g,g=w2.heap.size:=⟨_,rfl⟩
 rw[←da]at hz FE Du ⊢;clear da;generalize(w2.alloc (.cells #[.int .u8 0,.int .u8 0,.string ⟨#[]⟩,.string ⟨#[]⟩] 127))=w3 at*;refine zc (zm (v:=.agg #[.int .u8 (rw_c:Int),.int .u8 (rw_k:Int),.string (str rw_n),.string (str kd)]) (vs:=[.int .u8 (rw_c:Int),.int .u8 (rw_k:Int),.string (str rw_n),.string (str kd)]) rfl rfl rfl rfl hz rfl Wj Wz vY #[.int .u8 (rw_c:Int),.int .u8 (rw_k:Int),.string (str rw_n),.string (str kd)] Wz ?_);intro w5 hR bc gR;have BZ:=tZ.grown bc (sne Wq);have bz:=dc.grown bc dc.size Wx;clear hz tZ dc H3 Hk bc gR;have x0:=BZ.c0;have x1:=BZ.c1;have x2:=BZ.c2;have x3:=BZ.c3;have r3:=hR.c3
 first
 | have qqf3:=qqf3
   go_wp2_with(with_reducible refine h_A ?_);go_ret2
   exact⟨none,0,rfl,Own.none_ _ _ _ _,bz⟩
 | have d9:=BZ.lt
   have im:=hR.lt;go_upto_region 2 with fail;go_cut [39]from 20 to 39 (fun s wx=>s= .bool false∧w5=wx)
   case first=>
    cases sy
    ·exact Z6h_
    (have g3:¬(cls:Int)≤2:=by simp at h3;omega);exact Z6h_
   case rest=>
    obtain⟨rfl,rfl⟩:=hcut;clear h3;have fE:=yq (w:=w5) (rb+1) #[.int .u8 (cls:Int),.int .u8 (cod:Int)] 5 2 Wq WX (size:=1) rfl Wq;have nT:=BZ.alloc (.cells #[.int .u8 (cls:Int),.int .u8 (cod:Int)] 5);have ta:=hR.alloc (.cells #[.int .u8 (cls:Int),.int .u8 (cod:Int)] 5);have hBa:=bz.alloc bz.size (.cells #[.int .u8 (cls:Int),.int .u8 (cod:Int)] 5);(have Tg: #[Value.int .u8 (cls:Int),.int .u8 (cod:Int)].toList=[UInt8.ofNat cls,UInt8.ofNat cod].map u8v:=by simp[u8v,Nat.mod_eq_of_lt bD,Nat.mod_eq_of_lt D1]);rw[Tg]at fE;clear Tg;go_upto_region 5 with fail;(obtain⟨lb,cT⟩:∃g,g=w5.heap.size:=⟨_,rfl⟩);rw[←cT]at fE im d9 ⊢;have PZ:=bz.size;rw[←cT]at PZ;clear cT x0 x1 x2 x3 r3 BZ hR bz;generalize(w5.alloc (.cells #[.int .u8 (cls:Int),.int .u8 (cod:Int)] 5))=w6 at*;have x0:=nT.c0;have x1:=nT.c1;have x2:=nT.c2;have x3:=nT.c3;by_cases dN:cls≤2
    ·have qq1r:=();exact Z5_
    have g1:(2:Int)<(cls:Int):=by omega
    cases sy
    ·exact Z5_
    have qq1q:=()
    exact Z5_):p:=h
theorem Z4e_(h:p:=by
 first|(have qqjk:=qqjk;have Ba:=fun(W:World) (h:Below w.heap.size w W)=>JJ a A n c w.heap.size W ((hr.more hB).below h) h.size hw hs hn)|(have Ba:=fun(W:World) (h:Below w.heap.size w W)=>Qw a A n c w.heap.size W ((hr.more hB).below h) h.size hw hs hn)
 obtain⟨xb,w0,bC,bh,hX,Hr⟩:=zo w (asV a.chan a.track A n c) 42;have sw:w.heap.size≤xb:=by omega
 by_cases c1:most<1
 first
 | have qqjk:=qqjk
   ·exact Z33_
 | ·have qqdf:=()
    exact Z33_
 have d1:decide (most<1)=false:=by simp;omega
 by_cases c2:4084<most
 first
 | have qqjk:=qqjk
   ·have qqde:=()
    exact Z33_
 | ·have qqdg:=()
    exact Z33_
 have d2:decide (4084<most)=false:=by simp;omega
 obtain⟨M,rfl⟩:∃M:Nat,most=(M:Int):=⟨most.toNat,by omega⟩
 have EM:1≤M:=by omega
 have tA:M≤4084:=by omega
 first
 | done
 | have qqjk:=qqjk
 | have x0:=hX.c0
   have x1:=hX.c1;have x2:=hX.c2
 cases bJ:asOk a
 first
 | have qqjk:=qqjk
   ·exact Z2i_
 | ·have qqbq:=()
    exact Z2i_
 have e1:yP (M:Int) a=0:=by simp[yP,c1,c2,bJ]
 have e2:cutF (M:Int) a=vr M a:=by simp[cutF,e1]
 have e3:xP a=0:=by simp[xP,bJ]
 rw[e1,e2];rw[e3]at Ba;have ma:=Zl EM bJ;obtain⟨Dr,sA,hne⟩:=v8 bJ;have cX:=xr xd hr;have BF:=fun{i:Nat} (hi:i<n)=>qm xd hr hi
 obtain⟨FS,nc⟩:∃l,l=vr M a:=⟨_,rfl⟩
 rw[←nc]at ma ⊢;have mY:Hid (FS=[]++cutL M a.chan a.track n 0 (a.segs.drop 0)):=Lib.hid (by rw[nc,vr,cX];rfl);have HM:=Lib.hid ma;have HN:=Lib.hid cX;have mT:=Lib.hid sA;have CY:=Lib.hid hw.2.2;obtain⟨ii,lp,_⟩:=hw
 first
 | have qqjk:=qqjk
   clear e1 e2 e3 bJ nc hne ma sA cX hs hr c1 c2
 | have he8:n≤4:=by omega
   clear e1 e2 e3 bJ nc hne ma sA cX hs hr c1 c2 Dr
 obtain⟨ch,tr,l⟩:=a;simp only at*;unfold asV at*
 first
 | have qqjk:=qqjk
   go_enter func44,ntmps44
   go_wp2_with(with_reducible refine h_A ?_)
 | go_enter func47,ntmps47
   go_upto_region 1 with fail
 rw[←bC,←bh];first|(have qqjk:=qqjk;go_step3)|(skip)
 clear bC bh
 first
 | have qqjk:=qqjk
   have x0:=hX.c0;have x1:=hX.c1
   have x2:=hX.c2
 | skip
 go_wp2_with(with_reducible refine h_A ?_);refine(Ba _ Hr).mono ?_;rintro e w1 ⟨rfl,Ha⟩;have oe:=hX.below Ha;have Hc:=Hr.trans (Ha.mono Hr.size);clear Ba hX Ha Hr x0 x1 x2;clear w0
 first
 | have qqjk:=qqjk
   have x0:=oe.c0
   have x1:=oe.c1
 | skip
 have x2:=oe.c2
 first
 | have qqjk:=qqjk
   go_wp2_with(with_reducible refine h_A ?_)
   go_step3
 | skip
 go_wp2_with(with_reducible refine h_A ?_)
 first
 | have qqjk:=qqjk
   go_loopw [7,27] (fun s7 Sd wr=>∃(i N c2:Nat) (A2:Option Addr) (D:List Fr),i≤n∧s7= .slice A2 N c2∧Sd= .int .i64 (i:Int)∧N≤16388∧Hid (D.length=N)∧Hid (FS=D++cutL M ch tr n i (l.drop i))∧OwnF wr (xb+1) A2 N c2 D∧Box wr xb 42 #[.int .u16 (ch:Int),.int .u8 (tr:Int),.slice A n c]∧Below w.heap.size w wr) (fun _ Sd _=>n-(RowKit.intOf Sd).toNat)
 | go_loopw [6,7] (fun s6 s7 wr=>∃(i N c2:Nat) (A2:Option Addr) (D:List Fr),i≤n∧s6= .slice A2 N c2∧s7= .int .i64 (i:Int)∧N≤16388∧Hid (D.length=N)∧Hid (FS=D++cutL M ch tr n i (l.drop i))∧OwnF wr (xb+1) A2 N c2 D∧Box wr xb 42 #[.int .u16 (ch:Int),.int .u8 (tr:Int),.slice A n c]∧Below w.heap.size w wr) (fun _ s7 _=>n-(RowKit.intOf s7).toNat)
 case atStart=>exact⟨0,0,0,none,[],by omega,rfl,rfl,by omega,Lib.hid rfl,mY,Own.none_ _ _ _ _,oe,Hc⟩
 first|(have qqjk:=qqjk;clear mY x0 x1 x2 oe Hc w1)|(clear mY x2 oe Hc w1)
 obtain⟨i,N,c2,A2,D,hi,rfl,rfl,hN,HD,HC,hO,hX,bO⟩:=hrel
 first
 | have qqjk:=qqjk
   have x0:=hX.c0
   have x1:=hX.c1
 | skip
 have x2:=hX.c2;by_cases hlt:i<n
 first
 | have qqjk:=qqjk
   ·exact Z3l_
   ·have qqdc:=()
    exact Z32_
 | ·have g1:(i:Int)<(n:Int):=by omega
    obtain⟨b,off,rfl,dP,bK,bD⟩:=BF hlt;(have gc:b<w.heap.size:=by omega);(have dy:∀W,Below w.heap.size w W→W.cell? ⟨b,off+i*2,none⟩=some (.int .u8 (l[i].ty:Int)):=fun W hW=>(hW.cell (p:=⟨b,off+i*2,none⟩) gc).trans (bD 0 _ rfl));have k1:wr.cell? ⟨b,off+i*2+1,none⟩=some (.string (str l[i].load)):=(bO.cell (p:=⟨b,off+i*2+1,none⟩) gc).trans (bD 1 _ rfl);have mr:=CY.out _ (List.getElem_mem bK);have mS:=Nat.le_trans (kQ (List.getElem_mem bK)) mT.out;have cM:Hid (FS=D++(cutN M ⟨decide (i=0),decide (i+1=n),true,false,l[i].ty,tr,ch,[]⟩ l[i].load++cutL M ch tr n (i+1) (l.drop (i+1)))):=Lib.hid (by rw[HC.out,List.drop_eq_getElem_cons bK,Zk]);clear bD HC;generalize l[i].ty=ty at*;generalize l[i].load=s at*;(obtain⟨T,hT⟩:∃T,T=cutL M ch tr n (i+1) (l.drop (i+1)):=⟨_,rfl⟩);rw[←hT]at cM;have HT:=Lib.hid hT;clear hT;(obtain⟨b1,bL⟩:∃b,b=decide (i=0):=⟨_,rfl⟩);(obtain⟨b2,bE⟩:∃b,b=decide (i+1=n):=⟨_,rfl⟩);rw[←bL,←bE]at cM;(have q1:((i:Int)==0)=b1:=by rw[bL,Bool.eq_iff_iff];simp);(have q2:((i:Int)==(n:Int)-1)=b2:=by rw[bE,Bool.eq_iff_iff];simp;omega);clear bL bE;have dr:=zh s;(obtain⟨LL,ry⟩:∃x,x=s.length:=⟨_,rfl⟩);rw[←ry]at mS dr;(have gg:LL≤s.length:=by omega);(have cR:s.length≤LL:=by omega);have rF:=Lib.hid ry;clear ry;go_wp2_with(with_reducible refine h_A ?_)
    go_loopw [6,9] (fun s6 s9 wr=>∃(N c2 fr:Nat) (A2:Option Addr) (D:List Fr),s6= .slice A2 N c2∧s9= .int .i64 (fr:Int)∧fr≤LL+M∧N≤16388∧Hid (D.length=N)∧Hid (FS=D++((if fr=0∨fr<LL then cutN M ⟨b1,b2,decide (fr=0),false,ty,tr,ch,[]⟩ (s.drop fr)else [])++T))∧OwnF wr (xb+1) A2 N c2 D∧
     Box wr xb 42 #[.int .u16 (ch:Int),.int .u8 (tr:Int),.slice (some ⟨b,off,none⟩) n c]∧Below w.heap.size w wr) (fun _ s9 _=>LL+M+1-(RowKit.intOf s9).toNat)
    case atStart=>exact⟨N,c2,0,A2,D,rfl,rfl,by omega,hN,HD,by rw[if_pos (.inl rfl)];simpa using cM,hO,hX,bO⟩
    clear cM HD hN hO hX bO x2 k1;obtain⟨N,c2,fr,A2,D,rfl,rfl,nP,hN,HD,HC,hO,hX,bO⟩:=hrel;by_cases fL:fr=0∨fr<LL
    ·(obtain⟨to_,tE⟩:∃x,x=min (fr+M) LL:=⟨_,rfl⟩);(have rz:(if(LL:Int)<(fr:Int)+(M:Int)then(LL:Int)else(fr:Int)+(M:Int))=(to_:Int):=by split<;>omega);(have m9:min ((fr:Int)+(M:Int)) (LL:Int)=(to_:Int):=by omega);(have Az:fr≤to_:=by omega);(have tz:to_≤LL:=by omega);(obtain⟨fi,mR⟩:∃b,b=decide (to_=LL):=⟨_,rfl⟩);(have pw:((to_:Int)==(LL:Int))=fi:=by rw[mR,Bool.eq_iff_iff];simp;omega);(obtain⟨b3,bX⟩:∃b,b=decide (fr=0):=⟨_,rfl⟩);(have cL:((fr:Int)==0)=b3:=by rw[bX,Bool.eq_iff_iff];simp);have p7:=Lib.hid mR;have N6:=Lib.hid bX;have N9:=Lib.hid tE;have TR:Hid (FS=D++(cutN M ⟨b1,b2,b3,false,ty,tr,ch,[]⟩ (s.drop fr)++T)):=Lib.hid (by rw[HC.out,if_pos fL,bX]);clear HC;have HC:=TR;clear TR tE mR bX;have n7:=hX.c2;have hwn:IntKind.i64.wrap ((n:Int)-1)=(n:Int)-1:=IntWalk.i64_in _ ⟨by omega,by omega⟩
     cases AJ:b3
     ·exact Zo_
     have qq3x:=();exact Zo_
    have HE:Hid (FS=D++cutL M ch tr n (i+1) (l.drop (i+1))):=Lib.hid (by rw[HC.out,if_neg fL,←HT.out,List.nil_append]);(have g2:¬(fr:Int)=0:=by omega);(have g3:¬(fr:Int)<(LL:Int):=by omega);clear HC fL;go_wp2_with(with_reducible refine h_A ?_);exact⟨⟨i+1,N,c2,A2,D,by omega,rfl,by go_num,hN,HD,HE,hO,hX,bO⟩,by simp[RowKit.intOf];omega⟩
   ·exact Z32_):p:=h
theorem Z4s_(h:p:=by
 refine hK _ _ BL ?_;clear hK K;try simp only[g_S]
 refine rg_t 12 BL ?_;simp only[g_S];refine zD Wj ?_;go_wp2_with fail;go_meet
 exact⟨rb,rfl,rfl,Oe,ew,fY,BL⟩):p:=h
theorem Z54_(h:p:=by
 go_wp2_with(with_reducible refine h_A ?_);refine zG rfl fY rfl rfl underlying127 rfl Wj rfl ?_;rw[HR.out]
 exact⟨rfl,bz⟩):p:=h
theorem Z55_(h:p:=by
 have ek:=hlt pb hF;rcases Gx pb e with e|e
 ·obtain⟨q1,q2,_⟩:=kr hm hf lp h0 h1 e;exact pC _ _ hf.2.2 Wq q1 q2
 omega):p:=h
theorem Z56_(h:p:=by
 have HH:=Lib.hid hh;clear hh;go_wp2_with fail;go_meet
 case rel=>exact⟨by first|(rw[HH.out];done)|(rw[HH.out];rfl),rfl⟩):p:=h
theorem Z5p_(h:p:=by
 injection h with h;injection h with _ h;injection h with h1 h2;subst h1 h2;exact⟨by omega,by omega⟩):p:=h
theorem Z59_(h:p:=by
 split at h
 ·cases h
 exact Z5p_):p:=h
theorem Z5a_(h:p:=by
 go_wp2_with(with_reducible refine h_A ?_)
 exact⟨⟨j+1,by omega,by go_num,nM,hz,hb,hB⟩,by simp[RowKit.intOf];omega⟩):p:=h
theorem Z5c_(h:p:=by
 have g1:¬(i:Int)<(n:Int):=by omega
 exact Z6t_):p:=h
theorem Z5d_(h:p:=by
 refine iH 8 Wq Wq Wq Wq Wq Wq ?_
 unfold yu at h;rw[e]at h;simpa using h):p:=h
theorem Z5f_(h:p:=by
 go_wp2_with(with_reducible refine h_A ?_)
 exact⟨⟨j+1,by omega,by go_num,nM,bE,Hc⟩,by simp[RowKit.intOf];omega⟩):p:=h
theorem Z5h_(h:p:=by
 go_enter func27,ntmps27;go_wp2;go_region
 all_goals(go_wp2;go_ret;exact⟨rfl,.below (Below.drew (Below.refl _ w))⟩)):p:=h
theorem Z5i_(h:p:=by
 rcases hk with e|e|e
 ·exact .inl (e▸cT)
 ·exact .inl (r7 k e)
 have:=B0 k e;have:=eR.1;exact .inr Wq):p:=h
theorem Z5j_(h:p:=by
 rw[t1,t2]at h';obtain⟨e,h2⟩:=Zf l1 l2 h'
 exact⟨by rw[(zL _ _).1 ea,(zL _ _).1 eb];unfold agS;simp[e],h2⟩):p:=h
theorem Z5k_(h:p:=by
 unfold onT;by_cases e1:f.chan=c
 ·have:¬f.track=t:=fun e2=>h ⟨e1.symm,e2.symm⟩
  simp[this]
 simp[e1]):p:=h
theorem Z5m_(h:p:=by
 rw[h2];clear h2;go_enter func70,ntmps70;go_wp2_with(with_reducible refine h_A ?_);go_ret
 exact⟨rfl,rfl⟩):p:=h
theorem Z5n_(h:p:=by
 clear HR;go_wp2_with(with_reducible refine h_A ?_)
 all_goals
  go_ret;rw[eZ.out]
  exact⟨by simp_all,H3⟩):p:=h
theorem Z5o_(h:p:=by
 exact Z6o_):p:=h
theorem Z5q_(h:p:=by
 rw[List.length_map];refine RdX.of_own ho (fun g hg=>?_);have:=ho.blk_lt hg
 exact⟨by omega,this.2⟩):p:=h
theorem Z5r_(h:p:=by
 unfold yu at h;rw[e]at h;simp only[List.append_assoc]at h
 exact(QC (i:=4) Nz).2):p:=h
theorem Z5s_(h:p:=by
 clear h;go_enter func110,ntmps110;go_wp2_with(with_reducible refine h_A ?_);go_ret
 exact⟨rfl,rfl⟩):p:=h
theorem Z5t_(h:p:=by
 rintro e w' ⟨m,A2,c2,er,rfl,mu,Hc,hG⟩;obtain⟨rfl,rfl⟩:=V7 hG
 exact⟨A2,c2,rfl,mu,Hc⟩):p:=h
theorem Z5u_(h:p:=by
 rcases a3 with h3|h3
 ·exact .inl h3
 refine .inr fun g hg=>?_
 rw[h3]at hg
 simp at hg;omega):p:=h
theorem Z5v_(h:p:=by
 go_wp2_with(with_reducible refine h_A ?_);go_ret2;rw[Iz.out,md.out]
 exact⟨nt,c10,rfl,uI,lO⟩):p:=h
theorem Z5w_(h:p:=by
 rw[e1];go_enter func66,ntmps66;go_wp2_with(with_reducible refine h_A ?_);go_ret
 exact⟨rfl,rfl⟩):p:=h
theorem Z5x_(h:p:=by
 go_wp2_with(with_reducible refine h_A ?_)
 cases c₀
 simp_all [bodyPostS,results,Tryz.results176]):p:=h
theorem Z5z_(h:p:=by
 go_wp2_with(with_reducible refine h_A ?_);go_ret
 exact⟨⟨true,rfl,zAe⟩,rfl⟩):p:=h
theorem Z62_(h:p:=by
 clear p0 p5 iE;go_wp2_with(with_reducible refine h_A ?_);go_meet
 case rel=>exact⟨rfl,rfl⟩):p:=h
theorem Z63_(h:p:=by
 go_enter func108,ntmps108;go_wp2_with(with_reducible refine h_A ?_);go_ret
 exact⟨rfl,rfl⟩):p:=h
theorem Z67_(h:p:=by
 have gi:=(qe q1 Wq).1;by_cases hb:4≤b.length
 ·have:=QJ [c] hb;omega
 omega):p:=h
theorem Z68_(h:p:=by
 unfold wpOp;rw[hj];simp only[nu,if_true]
 exact .inl (h' _ fun a' w' h1 h2=>⟨h1,h2⟩)):p:=h
theorem Z69_(h:p:=by
 go_wp2_with(with_reducible refine h_A ?_);go_ret;rw[HF.out]
 exact⟨rfl,Below.refl _ _⟩):p:=h
theorem Z6a_(h:p:=by
 clear hlt
 exact Z6s_):p:=h
theorem Z6b_(h:p:=by
 clear he;go_wp2_with fail;go_meet
 case rel=>exact⟨_,rfl,Lib.hid (by simp[h2]),rfl⟩):p:=h
theorem Z6c_(h:p:=by
 unfold wpOp;rw[hi];simp only[hw,if_true]
 exact .inl (h _ fun a' w' h1 h2=>⟨h1,h2⟩)):p:=h
theorem Z6d_(h:p:=by
 exact .inr ⟨_,rfl,by rw[run_sliceBound w kd _ y code Wq Wq];simp⟩):p:=h
theorem Z6f_(h:p:=by
 go_wp2_with(with_reducible refine h_A ?_);go_ret
 exact⟨by rw[HF.out];rfl,rfl⟩):p:=h
theorem Z6g_(h:p:=by
 simp[asAddr,run_loadVar_row w g t ty cs (0,0) d hb hu hd hi,Result.andThen]):p:=h
theorem Z6i_(h:p:=by
 injection h with h1 h;injection h with h2 h3
 exact⟨h1.symm,h2.symm,h3.symm⟩):p:=h
theorem Z6m_(h:p:=by
 exact⟨by rw[(zL _ _).1 ea,(zL _ _).1 eb];unfold agN;simp[e],h2⟩):p:=h
end Go.PH
