/- Proofs that stand several times. -/
import Derived.Shelf.Utf8.RuneCount
import Derived.Shelf.Strings.Search1
import Derived.Shelf.Strings.Search2
import Derived.Shelf.Strings.Search3
import Derived.Shelf.Strings.Count
import Derived.Shelf.LaysM
import Derived.Shelf.Strings.Shaped
import Derived.Shelf.Strings.Split
import Derived.Shelf.Strings.SplitShaped
import Derived.Shelf.Unicode.Decode
import Derived.Shelf.Strings.RuneCount
import Derived.Shelf.Strings.Explode
import Derived.Shelf.Unicode.DecodeSlow
import Derived.Shelf.Unicode.DecodeAny
import Derived.Shelf.Slices.Equal
import Derived.Shelf.Slices.Empties2
import Derived.Shelf.Bytes.SlSearch0
import Derived.Ground.SlbCloneProg
import Derived.Shelf.Bytes.SlClone
import Derived.Shelf.Bytes.SlEqualAll
import Derived.Shelf.Bytes.Small
import Derived.WalkKit
import Derived.Lib.Hide
import Derived.Deep.Draws
import Derived.Laws.CopyOwn
import Derived.Deep.AppendLies
import Derived.Maps.AppendAt
import Derived.Deep.DeepAppendRoom
import Derived.Lib.AppendStr
import Derived.Maps.RangeWalk
import Derived.Maps.Views
import Derived.WideKeyEntry
import Derived.Maps.OwnSet
import Derived.Deep.DeepAppendWide
import Derived.Laws.CopyRow
import Derived.Laws.Tables
import Derived.Laws.ResultCell
import Derived.Deep.AppendSrc
import Derived.Deep.Upon
import Derived.Maps.OwnOps
import Derived.OrdersHeld
import Derived.Deep.RegionHeld3
import Derived.ProofKit
import Derived.OpenShut
import Derived.Deep.DeepHandedRow
import Derived.Lib.LaidTab
import Derived.SizedLaws
import Derived.Deep.Slices
import Derived.Deep.QuietTactic
import Derived.BigQuiet
import Derived.Laws.BitsAllLaws
import Derived.Laws.Bits64
import Derived.Lib.Builder
import Derived.Lib.UnsafeStr
import Derived.Laws.Externs
import Derived.RegionTactic
import Derived.BigRegion
import Derived.Deep.RegionWith
import Derived.DeepKeys4
import Derived.Deep.Cut
import Derived.WalkSpells
import Derived.Lib.LazyBuf
import Derived.Laws.StructEq
import Derived.Lib.ConvBytes
import Derived.Deep.CutRange
import Derived.WalkMore
import Derived.Lib.SplitLaws
import Derived.Deep.DeepCutAuto
import Derived.WalkLawsBesides
import Derived.Lib.DecodeN
import Derived.Lib.TrimU
import Derived.Lib.OthersKept
import Derived.Lib.LaidU8
import Derived.StringKeys
import Derived.Defers
import Derived.Recover
import Derived.Deep.CutBlock
import Derived.Lib.Bytealg
import Derived.Test.YtfbkameikhgciaaGreatDoorMy00
set_option linter.all false
set_option maxRecDepth 100000
set_option maxHeartbeats 8000000
namespace Go.PH
open Go.RowKit Go.Proofs
variable {p : Prop}
theorem Za_(h:p:=by
 subst hk
 first
 | have qq2g:=qq2g
   generalize dq:(((169:Nat):Int))=k at*
   obtain rfl:k=169:=by rw[←dq];rfl
 | generalize dq:(((168:Nat):Int))=k at*
   obtain rfl:k=168:=by rw[←dq];rfl
 clear dq;have c0:=hX.c0;have c1:=hX.c1;have c2:=hX.c2;have c3:=hX.c3;have c4:=hX.c4;go_enter func118,ntmps118;go_upto_region 1 with fail;rw[←Hg,←Hi];clear Hg Hi;go_upto_region 2 with fail;have Hk:=hX.below Hc;first|(have qq2g:=qq2g;generalize(w1.alloc (.cells #[.int .u8 169] 5))=w2 at*)|(generalize(w1.alloc (.cells #[.int .u8 168] 5))=w2 at*)
 have hB:=Ha.trans (Hc.mono BW);have fj:=dF.up Hc;have cj:=Hc.size;generalize cT:w1.heap.size=lb at*;have wP:Hid (xb≠lb):=Lib.hid mX;have DQ:=Lib.hid cT;clear c0 c1 c2 c3 c4 hX dF cT Ha;have c0:=Hk.c0;have c1:=Hk.c1;have c2:=Hk.c2;have c3:=Hk.c3;have c4:=Hk.c4;go_wp2_with(with_reducible refine h_A ?_);first|(have qq2g:=qq2g;have eZ:Hid (R=[UInt8.ofNat 169]++be 4 INN.length++INN):=Lib.hid (by rw[HR.out];simp[yu]))|(have eZ:Hid (R=[UInt8.ofNat 168]++be 4 INN.length++INN):=Lib.hid (by rw[HR.out];simp[yu]))
 have Ey:INN.length≤100000000:=by have:=hN;rw[eZ.out]at this;simp[List.length_append,zr]at this;omega
 have lP:R.length=5+INN.length:=by rw[eZ.out];simp[List.length_append,zr];omega
 have BF:=fun{i:Nat} (hi:i<v.list.length)=>fj.elem hi
 have sM:=fun{i:Nat} (hi:i<v.keys.length)=>fj.key hi
 simp only at BF sM;obtain⟨N,sU⟩:∃N,N=v.list.length:=⟨_,rfl⟩
 rw[←sU]at Hk wO c0 c1 c2 c3 c4 ⊢;have HN:=Lib.hid sU
 first
 | have qq2g:=qq2g
   have Gc:Hid (be 4 N++yy false v.keys v.list=INN):=Lib.hid (by rw[tO.out,innB,u9.out,sU];rfl)
 | have Gc:Hid (be 4 N++yy true v.keys v.list=INN):=Lib.hid (by rw[tO.out,innB,u9.out,sU];rfl)
   obtain⟨Fs,sx⟩:=(by first|exact Nu.out rfl|exact Nu.out trivial:v.keys.length=v.list.length∧_=true);rw[←sU]at Fs;have DS:=Lib.hid Fs;have tG:=Lib.hid sx;clear Fs sx
 have iV:=Lib.hid lP;have hp:=ye N 4 w2 Wq Wq;have Ct:(be 4 N).length=4:=zr 4 N;generalize be 4 N=P0 at*;have OQ:lb<w2.heap.size:=(b7.blk_lt (g:=lb) rfl).2;clear sU lP fj mm ot hN cj lK;refine hp.mono ?_;rintro e w4 ⟨A4,mE,rfl,Bv,Hn⟩;have Bg:=Hk.below Hn;have sC:OwnB w4 w2.heap.size A4 4 mE P0:=Bv;clear hp c0 c1 c2 c3 c4 Bv Ct;have c0:=Bg.c0;have c1:=Bg.c1;have c2:=Bg.c2;have c3:=Bg.c3;have c4:=Bg.c4;go_wp2_with(with_reducible refine h_A ?_);clear c0 c1 c2 c3 c4 Bg
 first
 | have qq2g:=qq2g
   go_loopw [4,5] (fun s4 s5 wr=>∃(i ni ci:Nat) (Ai:Option Addr) (li:List UInt8),i≤N∧s4= .slice Ai ni ci∧s5= .int .i64 i∧OwnB wr w2.heap.size Ai ni ci li∧Below w2.heap.size w2 wr∧Hid (li++yy false (v.keys.drop i) (v.list.drop i)=INN)) (fun _ s5 _=>N-(RowKit.intOf s5).toNat)
 | go_loopw [4,5] (fun s4 s5 wr=>∃(i ni ci:Nat) (Ai:Option Addr) (li:List UInt8),i≤N∧s4= .slice Ai ni ci∧s5= .int .i64 i∧OwnB wr w2.heap.size Ai ni ci li∧Below w2.heap.size w2 wr∧Hid (li++yy true (v.keys.drop i) (v.list.drop i)=INN)) (fun _ s5 _=>N-(RowKit.intOf s5).toNat)
 case atStart=>exact⟨0,4,mE,A4,P0,by omega,rfl,rfl,sC,Hn,Lib.hid Gc.out⟩
 clear sC Hn;obtain⟨i,ni,ci,Ai,li,hi,rfl,rfl,iF,bO,HC⟩:=hrel;have Bg:=Hk.below bO;have bQ:ni≤INN.length:=by have:=RdB.length iF.rd;rw[←HC.out,List.length_append];omega
 have lY:=bO.size;have c0:=Bg.c0;have c1:=Bg.c1;have c2:=Bg.c2;have c3:=Bg.c3;have c4:=Bg.c4;by_cases hlt:i<N
 ·have g1:(i:Int)<(N:Int):=by omega
  have BE:i<v.list.length:=by rw[←HN.out];exact hlt
  obtain⟨b,off,hx,rfl,ep,Lm⟩:=BF BE;have nl:mayV zJ v.list[i]=true:=List.all_eq_true.1 wI.out _ (List.getElem_mem BE);have bP:=IH.out _ (List.getElem_mem BE) hx
  first
  | have qq2g:=qq2g
    obtain⟨k0,k1,k2,k3,k4⟩:=Lm wr bO;have bP:=bP wr (ep.up bO) nl;have HD:Hid (yy false (v.keys.drop i) (v.list.drop i)=vlB v.list[i]++yy false (v.keys.drop (i+1)) (v.list.drop (i+1))):=Lib.hid (Yo BE _ _)
    clear Lm BF sM ep
  | have mg:i<v.keys.length:=by rw[DS.out];exact hlt
    obtain⟨bk,offk,rfl,Ml⟩:=sM mg;have HD:Hid (yy true (v.keys.drop i) (v.list.drop i)=((be 1 v.keys[i].length++v.keys[i])++vlB v.list[i])++yy true (v.keys.drop (i+1)) (v.list.drop (i+1))):=Lib.hid (XA BE mg)
    have bK:v.keys[i].length≤255:=by
     exact Z4c_
    have y0:=Ml wr bO;clear BF sM
  generalize v.list[i]=x at*
  first
  | have qq2g:=qq2g
    have cM:Hid ((li++vlB x)++yy false (v.keys.drop (i+1)) (v.list.drop (i+1))=INN):=Lib.hid (by rw[←HC.out,HD.out,List.append_assoc]);have IY:ni+(vlB x).length≤INN.length:=by have:=RdB.length iF.rd;rw[←cM.out];simp[List.length_append];omega
    have bP:=bP Wq
  | generalize v.keys[i]=ky at*
    have dr:=zh ky;have cM:Hid ((((li++ [UInt8.ofNat ky.length])++ky)++vlB x)++yy true (v.keys.drop (i+1)) (v.list.drop (i+1))=INN):=Lib.hid (by rw[←HC.out,HD.out];simp[be]);(have IY:ni+1+ky.length+(vlB x).length≤INN.length:=by have:=RdB.length iF.rd;rw[←cM.out];simp[List.length_append];omega);(have oK:Value.int .u8 (ky.length:Int)=u8v (UInt8.ofNat ky.length):=by rw[kS,UInt8.toNat_ofNat'];congr 1;omega);have nG:=QV (size:=1) wr #[.int .u8 (ky.length:Int)] 5 (0,0) 1 1 rfl Wq WX;have hBa:=(Below.refl wr.heap.size wr).alloc (Nat.le_refl _) (.cells #[.int .u8 (ky.length:Int)] 5);(have e8:li.map u8v++ #[Value.int .u8 (ky.length:Int)].toList=(li++ [UInt8.ofNat ky.length]).map u8v:=by simp[oK]);have Ap:=zi iF hBa;have nT:=Bg.below hBa;have MC:=bO.trans (hBa.mono lY);have aC:=hBa.size;clear oK;go_wp2_with(with_reducible refine h_A ?_);refine zc (yc slB rfl rfl rfl rfl Ap nG nQ Wq Hj Wq ?_);intro A3 q3 w3 Bx H7 _;have sR:=MC.grown H7 MC.size (fun g hg=>by have:=(Ap.blk_lt hg).1;omega);have bU:=nT.grown H7 (by intro e;have:=(Ap.blk_lt e.symm).1;have:=Hk.lt;omega);have y0:=Ml w3 sR;have EJ:=sR.size;rw[e8]at Bx;clear e8 Ap nG hBa nT Bg c0 c1 c2 c3 c4 H7 iF;have c0:=bU.c0;have c1:=bU.c1;have c2:=bU.c2;have c3:=bU.c3;have c4:=bU.c4;go_wp2_with(with_reducible refine h_A ?_);refine zc (jC slB underlying9 rfl rfl rfl rfl Bx Wq Wq Wq ?_);intro A4 q4 w4 Bv Bb;have Aq:=sR.grown Bb sR.size (fun g hg=>by have:=(Bx.blk_lt hg).1;omega);have Bg:=bU.grown Bb (by intro e;have:=(Bx.blk_lt e.symm).1;have:=Hk.lt;omega);have S3:=Aq.size;rw[←List.map_append]at Bv;obtain⟨k0,k1,k2,k3,k4⟩:=Lm w4 Aq;have bP:=bP w4 (ep.up Aq) nl Wq
  unfold J6 vlV at bP;generalize vlB x=B at*
  first
  | done
  | have qq2g:=qq2g
  | clear y0 bU Bb Bx c0 c1 c2 c3 c4 Lm ep Ml
    have c0:=Bg.c0;have c1:=Bg.c1;have c2:=Bg.c2;have c3:=Bg.c3;have c4:=Bg.c4
  go_wp2_with(with_reducible refine h_A ?_);refine bP.mono ?_;rintro e w5 ⟨A5,c5,rfl,ct,bz⟩
  first
  | have qq2g:=qq2g
    have lA:=zi iF bz
    have tS:=bO.trans (bz.mono lY)
  | have lA:=zi Bv bz
    have tS:=Aq.trans (bz.mono S3)
  have gR:=bz.size;first|(have qq2g:=qq2g;clear bP k0 k1 k2 k3 k4 c0 c1 c2 c3 c4 Bg iF)|(clear bP k0 k1 k2 k3 k4 c0 c1 c2 c3 c4 Bg Bv)
  go_wp2_with(with_reducible refine h_A ?_);refine zc (yc slB rfl rfl rfl rfl lA ct.rd (zM _) Wq Hj Wq ?_);intro A6 c6 w6 bS bm _;have Ew:=tS.grown bm tS.size (fun g hg=>by have:=(lA.blk_lt hg).1;omega);rw[←List.map_append]at bS;go_wp2_with(with_reducible refine h_A ?_);first|(have qq2g:=qq2g;exact⟨⟨i+1,ni+B.length,c6,A6,li++B,by omega,rfl,by go_num,bS,Ew,cM⟩,by simp[RowKit.intOf];omega⟩)|(exact⟨⟨i+1,ni+1+ky.length+B.length,c6,A6,((li++ [UInt8.ofNat ky.length])++ky)++B,by omega,rfl,by go_num,bS,Ew,cM⟩,by simp[RowKit.intOf];omega⟩)
 have g1:¬(i:Int)<(N:Int):=by omega
 have gF:li=INN:=by
  exact Z58_
 subst gF;have BD:li.length=ni:=RdB.length iF.rd;have hp:=ye ni 4 wr Wq Wq;have P4:=hB.trans (bO.mono hB.size);have i5:=zi b7 bO;first|(have qq2g:=qq2g;have Cx:Hid (R=([UInt8.ofNat 169]++be 4 ni)++li):=Lib.hid (by rw[eZ.out,BD]))|(have Cx:Hid (R=([UInt8.ofNat 168]++be 4 ni)++li):=Lib.hid (by rw[eZ.out,BD]))
 have II:Hid (R.length=1+4+ni):=Lib.hid (by rw[iV.out,BD]);clear BF sM BD;go_wp2_with(with_reducible refine h_A ?_);refine hp.mono ?_;rintro e w8 ⟨A8,c8,rfl,dS,Be⟩;have lB:=zi iF Be;have t6:=zi i5 Be;have rt:=Be.size;have t5:=P4.trans (Be.mono Wq);clear hp c0 c1 c2 c3 c4 Bg iF i5;go_wp2_with(with_reducible refine h_A ?_);refine zc (yc slB rfl rfl rfl rfl t6 dS.rd (zM _) Wq Hj Wq ?_);intro A9 c9 w9 dt du _;have iU:=t5.grown du t5.size mQ;have EY:=zk lB du (fun g hg e=>by have h9:some lb=some g:=e;injection h9 with h9;have:=(lB.blk_lt hg).1;omega);have Ao:=du.size;rw[←List.map_append]at dt;clear lB t6 du;go_wp2_with(with_reducible refine h_A ?_);refine zc (yc slB rfl rfl rfl rfl dt EY.rd (zM _) Wq Hj Wq ?_);intro nt c10 rh eW ed _;have nD:=iU.grown ed iU.size (fun g hg=>by have:=(dt.blk_lt hg).1;omega);rw[←List.map_append,←Cx.out]at eW;go_wp2_with(with_reducible refine h_A ?_);go_ret
 exact⟨nt,c10,by rw[II.out];rfl,by rw[II.out];exact eW.base_le BW,nD⟩):p:=h
theorem Zb_(h:p:=by
 first
 | have qq2k:=qq2k
   have eo:∀k,k=min n 8→((str (r.take k)).toList !=(str (hdrB.take k)).toList)=false:=fun k e=>by
    have h1:=hr.length;rw[e,Nat.min_eq_left Wq,zn,zn,List.take_of_length_le Wq,←h8];simp
   clear h8
 | have qq2j:=qq2j
   have eo:∀k,k=min n 8→((str (r.take k)).toList !=(str (hdrB.take k)).toList)=true:=fun k e=>by
    have h1:=hr.length;rw[e,zn,zn];simp only[bne_iff_ne,ne_eq];intro h;apply h8;rcases Nat.le_total n 8 with h2|h2
    ·rw[Nat.min_eq_left h2]at h;rw[←h,List.take_of_length_le Wq,List.take_of_length_le Wq]
    rw[Nat.min_eq_right h2]at h;rw[h]
    rw[List.take_of_length_le WJ,List.take_of_length_le nZ]
 | have py:8≤n:=by
    have h1:=hr.length;have h2:=congrArg List.length h8;rw[List.length_take]at h2;have h3:hdrB.length=8:=rfl;omega
   have eo:∀k,k=min n 8→((str (r.take k)).toList !=(str (hdrB.take k)).toList)=false:=fun k e=>by rw[e,Nat.min_eq_right py,h8];simp[zn,hdrB]
 have im:=hr.length;obtain⟨m,hm⟩:∃m,m=min n 8:=⟨_,rfl⟩
 have m9:min (n:Int) 8=(m:Int):=by omega
 have mK:m≤n:=by omega
 have wi:m≤8:=by omega
 have oS:Bd (some (Value.int .i64 (m:Int))) n m:=.inr ⟨_,_,rfl,rfl⟩;have hq:=eo m hm;first|(have qq2k:=qq2k;have Ny:((str (r.take m)).toList==(str (hdrB.take m)).toList)=(!false):=by rw[←hq,bne];simp)|(have qq2j:=qq2j;have Ny:((str (r.take m)).toList==(str (hdrB.take m)).toList)=(!true):=by rw[←hq,bne];simp)|(have Ny:((str (r.take m)).toList==(str (hdrB.take m)).toList)=(!false):=by rw[←hq,bne];simp)
 clear eo;have OI:=Lib.hid hm;clear hm;have fF:=fun(W:World) (h:Below w.heap.size w W)=>jm (P:=prog) underlying55 underlying9 underlying5 (RdB.cut (hr.below' h bI) (lo:=0) (k:=m) Wq)
 simp only[Nat.sub_zero,List.drop_zero]at fF;have nL:=hr.cap;have ny:=hr.max;have x1:=hb.c1;go_enter func25,ntmps25;go_upto_region 1 with fail;refine zt (fun W:World=>Below w.heap.size w W) Wj ?_;have hS:Below w.heap.size w w.drew:=za (Below.refl _ _) 1;generalize w.drew=wd at*;refine rg_t 0 hS ?_;simp only[List.getElem_toArray,List.getElem_cons_zero,Act.put,List.setIfInBounds_toArray,List.set_cons_zero,List.set_cons_succ];refine rg_t 1 hS ?_;simp only[g_S];refine rg_t 2 hS ?_;simp only[g_S];refine ze 3 (v:=?_) rfl Wj Wj Wj hS rfl ?_ ?_;rotate_left
 ·intro wS He;have k0:=(hb.below He).cell (j:=1) rfl;go_simp;(with_reducible rfl)
 simp only[g_S];refine rg_t 4 hS ?_;simp only[g_S];refine qH 5 slB rfl Wj Wj Wj hS rfl rfl rfl ny nL 0 m c (.inl ⟨rfl,rfl⟩) oS (.inl ⟨rfl,rfl⟩) Mz Wq Wq (Nat.le_refl _) Wq ?_;try simp only[g_S]
 simp only[Nat.sub_zero];refine ze 6 (v:=?_) rfl Wj Wj Wj hS rfl ?_ ?_;rotate_left
 ·intro wS He;have k0:=fF _ He;go_simp;(with_reducible rfl)
 simp only[g_S];refine rg_t 7 hS ?_;simp only[g_S];refine ze 8 (v:=?_) rfl Wj Wj Wj hS rfl ?_ ?_;rotate_left
 ·intro wS He;rw[qM (x:=.const<| .string ⟨#[65,77,81,80,1,1,0,10]⟩) (lo:=none) (hi:=some<| .tmp 17) underlying9 (l:=hdrB) (i:=0) (j:=m)]<;>first|rfl|omega|exact wi|exact .inl ⟨rfl,rfl⟩|exact .inr ⟨_,_,rfl,rfl⟩
 simp only[g_S];simp only[List.drop_zero];refine rg_t 9 hS ?_;simp only[g_S];refine rg_t 10 hS ?_;simp only[g_S];refine zD Wj ?_;clear fF x1
 first
 | have qq2k:=qq2k
   have Oi:((m:Int)==8)=false:=by simp;omega
   clear hb hr
 | have qq2j:=qq2j
   have iq:=hb.below hS;have fS:w.heap.size≤wd.heap.size:=hS.size;have po:=YN bplL wd _ iq rfl p rfl hp SA l hdrB rfl (zi Hl hS) hne Wq nZ;have tH:KeepF (fun k=>k=lb∨blk SA=some k) w wd:=.below hS;clear h8 hb hr iq;unfold hdrB at po;go_wp2_with(with_reducible refine h_B ?_);refine po.mono ?_;rintro e w2 ⟨rfl,GB⟩;clear po;obtain⟨⟨A2,c2,bE,iQ,eS,ig⟩,dQ⟩:=GB;change Own w2 base 5 1 A2 (l++hdrB).length c2 ((l++hdrB).map u8v)at iQ;replace bE:Box w2 lb 61 #[.int .u8 0,.slice RA n c,x2,x3,.int .u64 (sz:Int),bPtr lb 5,.slice A2 (l++hdrB).length c2,x7]:=bE;go_wp2_with(with_reducible refine h_B ?_);refine zc (xx rfl rfl rfl rfl bE (j:=0) (v:=.int .u8 5) rfl Wj Wz ?_);intro w3 bX H7 fV;clear fV;replace bX:Box w3 lb 61 #[.int .u8 5,.slice RA n c,x2,x3,.int .u64 (sz:Int),bPtr lb 5,.slice A2 (l++hdrB).length c2,x7]:=bX;have eN:=zk iQ H7 (fun k hk e=>eS zAa)
   have BO:KeepF (fun k=>k=lb∨blk SA=some k) w w3:=(tH.trans dQ (fun k hk=>.inl hk)).trans (.grown (F:=fun k=>k=lb) H7 (fun k hk=>.inl uj)) (fun k hk=>.inl (.inl hk))
 | have Ra:m=8:=by have:=OI.out;omega
   (have od:((m:Int)==8)=true:=by rw[Ra];rfl);have HME:=Lib.hid Ra;(have hfh:8≤m:=by omega);have iq:=hb.below hS;have fS:w.heap.size≤wd.heap.size:=hS.size;have x1:=iq.c1;clear Ra h8 hb hr;go_wp2_with(first|(with_reducible refine zU ?_)|(with_reducible refine yd ?_)|(with_reducible refine yM ?_));refine zc (zcd slB rfl rfl rfl ny nL 8 n c (.inr ⟨_,_,rfl,by omega⟩) (.inl ⟨rfl,rfl⟩) (.inl ⟨rfl,rfl⟩) mq py nL (Nat.le_refl _) (Nat.le_refl _) ?_);go_wp2_with(with_reducible refine h_B ?_);refine zc (xx rfl rfl rfl rfl iq (j:=1) (v:=.slice (cutA RA 1 8 c) (n-8) (c-8)) rfl Wj Wz ?_);intro w1 bL bM cq;have Fd:=Lib.hid cq;clear cq;have rO:=zk (zi Hl hS) bM (fun k hk e=>hne zAa);have tH:KeepF (fun k=>k=lb∨blk SA=some k) w w1:=(KeepF.below hS).trans (.grown (F:=fun k=>k=lb∨blk SA=some k) bM (fun k hk=>.inl (.inl uj))) (fun k hk=>.inl hk);have po:=YN bplL w1 _ bL rfl p rfl hp SA l hdrB rfl rO hne (by have:=Fd.out;omega) nZ;clear x1 iq rO;unfold hdrB at po;go_wp2_with(with_reducible refine h_B ?_);refine po.mono ?_;rintro e w2 ⟨rfl,GB⟩;clear po;obtain⟨⟨A2,c2,bE,iQ,eS,ig⟩,dQ⟩:=GB;change Own w2 base 5 1 A2 (l++hdrB).length c2 ((l++hdrB).map u8v)at iQ;replace bE:Box w2 lb 61 #[.int .u8 0,.slice (cutA RA 1 8 c) (n-8) (c-8),x2,x3,.int .u64 (sz:Int),bPtr lb 5,.slice A2 (l++hdrB).length c2,x7]:=bE;go_wp2_with(with_reducible refine h_B ?_);refine zc (xx rfl rfl rfl rfl bE (j:=0) (v:=.int .u8 1) rfl Wj Wz ?_);intro w3 bX H7 fV;have HZ3:=Lib.hid fV;clear fV;replace bX:Box w3 lb 61 #[.int .u8 1,.slice (cutA RA 1 8 c) (n-8) (c-8),x2,x3,.int .u64 (sz:Int),bPtr lb 5,.slice A2 (l++hdrB).length c2,x7]:=bX;have eN:=zk iQ H7 (fun k hk e=>eS zAa);(have dD:∀W,Calls prog 37 #[.int .u64 0,.string ⟨#[112,111,115,116,104,111,117,115,101]⟩] W fun e w'=>e= .returned (.agg #[.bool true,.int .u64 0,.string ⟨#[112,111,115,116,104,111,117,115,101]⟩,.int .u32 0,.string ⟨#[]⟩,.string ⟨#[]⟩,.slice none 0 0,.int .u8 0,.int .u64 0,.string ⟨#[]⟩,.slice none 0 0,.slice none 0 0])∧Below W.heap.size W w':=fun W=>kW 0 [112,111,115,116,104,111,117,115,101] W);have BO:KeepF (fun k=>k=lb∨blk SA=some k) w w3:=(tH.trans dQ (fun k hk=>.inl hk)).trans (.grown (F:=fun k=>k=lb) H7 (fun k hk=>.inl uj)) (fun k hk=>.inl (.inl hk));clear bL bE iQ tH bM H7;go_wp2_with(with_reducible refine h_B ?_)
   (with_reducible refine(dD _).mono ?_)
   rintro e w4 ⟨rfl,Hn⟩;clear dD;obtain⟨gb,w5,bC,bh,hG,il⟩:=zo w4 #[.bool true,.int .u64 0,.string ⟨#[112,111,115,116,104,111,117,115,101]⟩,.int .u32 0,.string ⟨#[]⟩,.string ⟨#[]⟩,.slice none 0 0,.int .u8 0,.int .u64 0,.string ⟨#[]⟩,.slice none 0 0,.slice none 0 0] 80;have b7:=yq (w:=w4) w4.heap.size #[.bool true,.int .u64 0,.string ⟨#[112,111,115,116,104,111,117,115,101]⟩,.int .u32 0,.string ⟨#[]⟩,.string ⟨#[]⟩,.slice none 0 0,.int .u8 0,.int .u64 0,.string ⟨#[]⟩,.slice none 0 0,.slice none 0 0] 80 1 (Nat.le_refl _) WX (size:=12) rfl Wq;rw[←bh,←bC]at b7;have eF:Rd w5 w5.heap.size 12 (some ⟨gb,0,none⟩) 1 1 (rowC saC [⟨true,0,[112,111,115,116,104,111,117,115,101]⟩]):=b7.rd;have bz:=Hn.trans (il.mono Hn.size);have Bt:KeepF (fun k=>k=lb∨blk SA=some k) w w5:=BO.trans (KeepF.below (F:=fun k=>k=lb) bz) (fun k hk=>.inl (.inl hk));have TX:hdrB.length=8:=rfl;have fD:=Zc Hl;have fz:=Zu 1 [⟨true,0,[112,111,115,116,104,111,117,115,101]⟩] startB ctl1 WJ lb sz base (l++hdrB).length c2 _ (bPtr lb 5) A2 (l++hdrB) (some ⟨gb,0,none⟩) 1 1 w5 (he.onK Bt (fun e=>by rcases e with e|e;exact fE e;have:=(Hl.blk_lt e).1;omega)) eF (bX.below bz) rfl rfl Bm rfl (.inr rfl) rfl (zi eN bz) eS (by have:=Bt.1;omega) (by rw[List.length_append];omega);rw[show(((1:Nat)):Int)=1 from rfl]at fz;clear b7 eF hG il TX fD
 go_wp2_with(with_reducible refine h_B ?_)
 first
 | done
 | have qq2k:=qq2k
 | have qq2j:=qq2j
 | rw[←bC,←bh]
   clear bC bh
   (with_reducible refine fz.mono ?_)
   rintro e w6 ⟨rfl,hW6⟩;clear fz;obtain⟨⟨A6,c6,cJ,lX,rH,eD⟩,gj⟩:=hW6;go_wp2
 go_end0
 first
 | have qq2k:=qq2k
   exact⟨rfl,hS⟩
 | have qq2j:=qq2j
   exact⟨rfl,⟨A2,c2,bX,eN,eS,ig.imp id (fun e k hk=>by have:=e k hk;omega)⟩,BO⟩
 | refine⟨rfl,py,⟨A6,c6,cJ,lX,rH,?_⟩,Bt.trans (gj.weak (G:=fun k=>k=lb∨blk A2=some k) (fun k hk=>.inl hk)) ?_⟩
   ·rcases eD with h|h
    ·rw[h];rcases ig with h2|h2
     ·exact .inl h2
     exact .inr fun k hk=>by have:=h2 k hk;have:=Fd.out;omega
    exact .inr fun k hk=>by have:=h k hk;have:=Bt.1;omega
   ·intro k hk;rcases hk with hk|hk
    ·exact .inl (.inl hk)
    rcases ig with h2|h2
    ·exact .inl (.inr (by rw[←h2];exact hk))
    exact .inr (by have:=h2 k hk;have:=Fd.out;omega)):p:=h
theorem Z4b_(h:p:=by
 first|(have qqj8:=qqj8;have hq:=aL.out)|(have hq:=HQ5.out)
 exact(hq.keep (fun g hg=>cf.block g hg.2 Hz) cf.size).mono (fun g hg=>⟨by have:=hg.1;omega,Nat.lt_of_lt_of_le hg.2 cf.size⟩)):p:=h
theorem Z66_(h:p:=by
 unfold yf at h3;split at h3
 ·rename_i hr
  split at h3
  ·exact⟨hr,by omega⟩
  omega
 omega):p:=h
theorem Zc_(h:p:=by
 obtain⟨zb,w1,eT,fO,hZ,Ha⟩:=zg w #[.bool false,.int .u64 0,.string ⟨#[]⟩,.int .u32 0,.string ⟨#[]⟩,.string ⟨#[]⟩,.slice none 0 0,.int .u8 0,.int .u64 0,.string ⟨#[]⟩,.slice none 0 0,.slice none 0 0] 80;have BD:l.length=n:=RdB.length (show RdB w w.heap.size A n c l from hr.1);have da:RdB w w.heap.size A n c l:=hr.1;have cS:=yZ A n c l w1 (yU (da.below Ha) Ha.size) Wq;have tg:w.heap.size≤zb:=by omega
 go_enter func112,ntmps112;go_upto_region 1 with fail;rw[←eT,←fO];clear eT fO;go_wp2_with(with_reducible refine h_A ?_);refine cS.mono ?_;rintro e w2 ⟨ob,rfl,rA,hR,Hc⟩;have fq:=hZ.below Hc;have BT:=Ha.trans (Hc.mono Ha.size);have BW:=Ha.size;have tD:=hZ.lt;clear cS hZ Ha Hc;obtain⟨ab,w3,Br,gr,hX,Hh⟩:=zg w2 #[.bool false,.int .u64 0,.string ⟨#[]⟩,.int .u32 0,.string ⟨#[]⟩,.string ⟨#[]⟩,.slice none 0 0,.int .u8 0,.int .u64 0,.string ⟨#[]⟩,.slice none 0 0,.slice none 0 0] 80;go_upto_region 3 with fail;rw[←Br,←gr];have gI:=fq.below Hh;have Bo:=BT.trans (Hh.mono BT.size);have fx:=hR.below Hh;have oz:=fq.lt;have CU:zb<ab:=by omega
 have ez:w2.heap.size≤ab:=by omega
 have Di:ob<ab:=by have:=hR.lt;omega
 have mP:∀g,(w1.heap.size≤g∧g<w2.heap.size)→g≠ab∧g≠zb:=fun g hg=>by omega
 clear Br gr fq BT hR Hh
 first
 | have qq2n:=qq2n
   have BZ:=hX;have ff:=gI;have H6:=Bo;clear hX gI Bo fx
   obtain⟨w5,rfl⟩:∃q,q=w3:=⟨_,rfl⟩
 | have qq2m:=qq2m
   have f8:=Kq A n c l w3 (yU (da.below Bo) Bo.size) Wq;have cX:=Jk l;have gh:=VD l;(have fL:=fun(a':Ag) (rest:List UInt8) (hl:l=a'.x.bytes++rest) (hx:a'.x.fmt<4294967296) (bJ:a'.x.ok=true)=>(show getR l=(a'.x,a'.x.bytes.length,0) by rw[hl,Yp hx bJ]));(obtain⟨T,hT⟩:∃t,t=getR l:=⟨_,rfl⟩);rw[←hT]at f8 cX gh fL;obtain⟨x,k,er⟩:=T;simp only at f8 cX gh;have iE:=Lib.hid fL;have P7:=gh.2.1;have NH:=gh.2.2;unfold xdV at f8;clear hT fx fL;go_wp2_with(with_reducible refine h_A ?_);refine f8.mono ?_;rintro e w4 ⟨rfl,Hn⟩;have Bg:=hX.below Hn;have ir:=gI.below Hn;have BG:=Bo.trans (Hn.mono Bo.size);clear f8 hX gI Bo Hn;go_wp2_with(with_reducible refine h_B ?_);refine zc (zm (v:=.agg #[.int .u32 (x.fmt:Int),.string (str x.glob),.string (str x.bran)]) (vs:=[.int .u32 (x.fmt:Int),.string (str x.glob),.string (str x.bran)]) rfl rfl rfl rfl Bg rfl Wj Wz mj #[.bool false,.int .u64 0,.string ⟨#[]⟩,.int .u32 (x.fmt:Int),.string (str x.glob),.string (str x.bran),.slice none 0 0,.int .u8 0,.int .u64 0,.string ⟨#[]⟩,.slice none 0 0,.slice none 0 0] Wz ?_);intro w5 BZ bc _;have ff:=ir.grown bc (sne Wq);have H6:=BG.grown bc BG.size Wx
   clear Bg ir bc BG
 | have qq2l:=qq2l
   have f8:=zas A n c l w3 (yU (da.below Bo) Bo.size) hn;clear fx;go_wp2_with(with_reducible refine h_A ?_);refine f8.mono ?_;rintro e w4 ⟨x,h1,k,er,rfl,hV,Hn,bK,fL⟩;have iE:=Lib.hid fL;unfold vlV;have Bg:=hX.below Hn;have ir:=gI.below Hn;have BG:=Bo.trans (Hn.mono Bo.size);have ee:=Bo.size;have GW:=hX.lt;clear f8 hX gI Bo Hn fL;go_wp2_with(with_reducible refine h_B ?_);refine zc (zm (v:=.agg #[.int .u8 (x.kind:Int),.int .u64 (x.n:Int),.string (str x.s),.slice h1.A1 x.keys.length h1.c1,.slice h1.A2 x.list.length h1.c2]) (vs:=[.int .u8 (x.kind:Int),.int .u64 (x.n:Int),.string (str x.s),.slice h1.A1 x.keys.length h1.c1,.slice h1.A2 x.list.length h1.c2]) rfl rfl rfl rfl Bg rfl Wj Wz (zau x h1) #[.bool false,.int .u64 0,.string ⟨#[]⟩,.int .u32 0,.string ⟨#[]⟩,.string ⟨#[]⟩,.slice none 0 0,.int .u8 (x.kind:Int),.int .u64 (x.n:Int),.string (str x.s),.slice h1.A1 x.keys.length h1.c1,.slice h1.A2 x.list.length h1.c2] Wz ?_);intro w5 BZ bc _;have ff:=ir.grown bc (sne Wq);have H6:=BG.grown bc BG.size Wx;have Dt:RV w5 (FN w3.heap.size w5) x h1:=(hV.keep (fun g hg=>bc.block g hg.2 Hz) bc.size).mono (fun g hg=>⟨hg.1,Nat.lt_of_lt_of_le hg.2 bc.size⟩);clear Bg ir bc BG hV;have aL:=Lib.hid Dt
   have lh:∀(we:World),w5.drew.grownBy we (some zb)→RV we (FN w.heap.size we) x h1:=fun we cf=>by
    have qqj8:=();exact Z4b_
   clear Dt
 | have f8:=J1 A n c l w3 (yU (da.below Bo) Bo.size) Wq
   have cX:qw l≤l.length:=Yt l;have bJ:=XI l
   have mS:(xM l).length≤140737488351232:=by
    unfold xM;split
    ·rw[jk];have hN:getN l<65536:=xY;omega
    simp
   (have fL:=fun(a':Ag) (rest:List UInt8) (hl:l=yL a'.q++rest) (h1:zW a'.q=true) (h2:a'.q.length≤1000) (h3:spOK 4294967296 a'.q)=>(show xM l=a'.q∧qw l=(yL a'.q).length by rw[hl];exact⟨(QE rest h1 h2 h3).2.1,(QE rest h1 h2 h3).2.2⟩));generalize xM l=Q at*;generalize qw l=k at*;generalize zO l=er at*;have iE:=Lib.hid fL;have BA:=Lib.hid bJ;clear fx fL bJ;go_wp2_with(with_reducible refine h_A ?_);refine f8.mono ?_;rintro e w4 ⟨A2,c2,rfl,Bv,Hn⟩;have Bg:=hX.below Hn;have ir:=gI.below Hn;have BG:=Bo.trans (Hn.mono Bo.size);have ee:=Bo.size;have GW:=hX.lt;clear f8 hX gI Bo Hn;go_wp2_with(with_reducible refine h_B ?_);refine zc (zm (v:=.slice A2 Q.length c2) (vs:=[.slice A2 Q.length c2]) rfl rfl rfl rfl Bg rfl Wj Wz wX #[.bool false,.int .u64 0,.string ⟨#[]⟩,.int .u32 0,.string ⟨#[]⟩,.string ⟨#[]⟩,.slice A2 Q.length c2,.int .u8 0,.int .u64 0,.string ⟨#[]⟩,.slice none 0 0,.slice none 0 0] Wz ?_);intro w5 BZ bc _;have ff:=ir.grown bc (sne Wq);have H6:=BG.grown bc BG.size Wx;have ct:OwnS w5 w3.heap.size A2 Q.length c2 Q:=zk Bv bc (fun g hg e=>by injection e with e;have:=(Bv.blk_lt hg).1;omega);clear Bg ir bc BG Bv;have pI:RdX w5 (fun g=>w3.heap.size≤g∧g<w5.heap.size) 2 A2 Q.length c2 (yx Q):=RdX.of_own ct (fun g hg=>ct.blk_lt hg);have HQ5:=Lib.hid pI;clear ct pI;obtain⟨W5,hW5⟩:∃q,q=w5:=⟨_,rfl⟩
   have lh:∀(we:World),w5.drew.grownBy we (some zb)→RdX we (fun g=>w.heap.size≤g∧g<we.heap.size) 2 A2 Q.length c2 (yx Q):=fun we cf=>by
    exact Z4b_
   clear hW5
 have fp:=hr.1.cap;have gS:=hr.1.max;go_upto_region 20 with fail
 first
 | have qq2n:=qq2n
   refine zt (fun W:World=>Box W ab 80 #[.bool false,.int .u64 0,.string ⟨#[]⟩,.int .u32 0,.string ⟨#[]⟩,.string ⟨#[]⟩,.slice none 0 0,.int .u8 0,.int .u64 0,.string ⟨#[]⟩,.slice none 0 0,.slice none 0 0]) Wj ?_
   have hS:Box w5.drew ab 80 #[.bool false,.int .u64 0,.string ⟨#[]⟩,.int .u32 0,.string ⟨#[]⟩,.string ⟨#[]⟩,.slice none 0 0,.int .u8 0,.int .u64 0,.string ⟨#[]⟩,.slice none 0 0,.slice none 0 0]:=BZ
 | have qq2m:=qq2m
   refine zt (fun W:World=>Box W ab 80 #[.bool false,.int .u64 0,.string ⟨#[]⟩,.int .u32 (x.fmt:Int),.string (str x.glob),.string (str x.bran),.slice none 0 0,.int .u8 0,.int .u64 0,.string ⟨#[]⟩,.slice none 0 0,.slice none 0 0]) Wj ?_
   have hS:Box w5.drew ab 80 #[.bool false,.int .u64 0,.string ⟨#[]⟩,.int .u32 (x.fmt:Int),.string (str x.glob),.string (str x.bran),.slice none 0 0,.int .u8 0,.int .u64 0,.string ⟨#[]⟩,.slice none 0 0,.slice none 0 0]:=BZ
 | have qq2l:=qq2l
   refine zt (fun W:World=>Box W ab 80 #[.bool false,.int .u64 0,.string ⟨#[]⟩,.int .u32 0,.string ⟨#[]⟩,.string ⟨#[]⟩,.slice none 0 0,.int .u8 (x.kind:Int),.int .u64 (x.n:Int),.string (str x.s),.slice h1.A1 x.keys.length h1.c1,.slice h1.A2 x.list.length h1.c2]) Wj ?_
   have hS:Box w5.drew ab 80 #[.bool false,.int .u64 0,.string ⟨#[]⟩,.int .u32 0,.string ⟨#[]⟩,.string ⟨#[]⟩,.slice none 0 0,.int .u8 (x.kind:Int),.int .u64 (x.n:Int),.string (str x.s),.slice h1.A1 x.keys.length h1.c1,.slice h1.A2 x.list.length h1.c2]:=BZ
 | refine zt (fun W:World=>Box W ab 80 #[.bool false,.int .u64 0,.string ⟨#[]⟩,.int .u32 0,.string ⟨#[]⟩,.string ⟨#[]⟩,.slice A2 Q.length c2,.int .u8 0,.int .u64 0,.string ⟨#[]⟩,.slice none 0 0,.slice none 0 0]) Wj ?_
   have hS:Box w5.drew ab 80 #[.bool false,.int .u64 0,.string ⟨#[]⟩,.int .u32 0,.string ⟨#[]⟩,.string ⟨#[]⟩,.slice A2 Q.length c2,.int .u8 0,.int .u64 0,.string ⟨#[]⟩,.slice none 0 0,.slice none 0 0]:=BZ
 replace H6:=za H6 1;replace ff:Box w5.drew zb 80 #[.bool false,.int .u64 0,.string ⟨#[]⟩,.int .u32 0,.string ⟨#[]⟩,.string ⟨#[]⟩,.slice none 0 0,.int .u8 0,.int .u64 0,.string ⟨#[]⟩,.slice none 0 0,.slice none 0 0]:=ff;have H6:Below w.heap.size w w5.drew:=H6
 skip
 clear BZ;generalize w5.drew=wd at*;refine ze 0 (v:=?_) rfl Wj Wj Wj hS rfl ?_ ?_;rotate_left
 ·intro wS He;have y0:=He.cell (j:=0) rfl;have y1:=He.cell (j:=1) rfl;have y2:=He.cell (j:=2) rfl;have y3:=He.cell (j:=3) rfl;have y4:=He.cell (j:=4) rfl;have y5:=He.cell (j:=5) rfl;have y6:=He.cell (j:=6) rfl;have y7:=He.cell (j:=7) rfl;have y8:=He.cell (j:=8) rfl;have y9:=He.cell (j:=9) rfl;have yA:=He.cell (j:=10) rfl;have yB:=He.cell (j:=11) rfl;go_simp;(with_reducible rfl)
 simp only[List.getElem_toArray,List.getElem_cons_zero,Act.put,List.setIfInBounds_toArray,List.set_cons_zero,List.set_cons_succ];refine rg_t 1 hS ?_;simp only[g_S];refine rg_t 2 hS ?_;simp only[g_S]
 first
 | have qq2n:=qq2n
   refine qH 3 slB rfl Wj Wj Wj hS rfl rfl rfl gS fp 0 n c (.inr ⟨_,_,rfl,rfl⟩) (.inl ⟨rfl,rfl⟩) (.inl ⟨rfl,rfl⟩) mq Wq Wq (Nat.le_refl _) (Nat.le_refl _) ?_
 | refine qH 3 slB rfl Wj Wj Wj hS rfl rfl rfl gS fp k n c (.inr ⟨_,_,rfl,rfl⟩) (.inl ⟨rfl,rfl⟩) (.inl ⟨rfl,rfl⟩) mq Wq Wq (Nat.le_refl _) (Nat.le_refl _) ?_
 try simp only[g_S]
 refine zj 4 rfl Wj rfl (fun K hK=>?_)
 first
 | have qq2n:=qq2n
   refine zK (g:=zb) (j:=0) (v:=.agg #[.bool false,.int .u64 0,.string ⟨#[]⟩,.int .u32 0,.string ⟨#[]⟩,.string ⟨#[]⟩,.slice none 0 0,.int .u8 0,.int .u64 0,.string ⟨#[]⟩,.slice none 0 0,.slice none 0 0]) (vs:=(#[.bool false,.int .u64 0,.string ⟨#[]⟩,.int .u32 0,.string ⟨#[]⟩,.string ⟨#[]⟩,.slice none 0 0,.int .u8 0,.int .u64 0,.string ⟨#[]⟩,.slice none 0 0,.slice none 0 0]).toList) rfl rfl rfl ff rfl Wj Wz vq #[.bool false,.int .u64 0,.string ⟨#[]⟩,.int .u32 0,.string ⟨#[]⟩,.string ⟨#[]⟩,.slice none 0 0,.int .u8 0,.int .u64 0,.string ⟨#[]⟩,.slice none 0 0,.slice none 0 0] Wz ?_
 | have qq2m:=qq2m
   refine zK (g:=zb) (j:=0) (v:=.agg #[.bool false,.int .u64 0,.string ⟨#[]⟩,.int .u32 (x.fmt:Int),.string (str x.glob),.string (str x.bran),.slice none 0 0,.int .u8 0,.int .u64 0,.string ⟨#[]⟩,.slice none 0 0,.slice none 0 0]) (vs:=(#[.bool false,.int .u64 0,.string ⟨#[]⟩,.int .u32 (x.fmt:Int),.string (str x.glob),.string (str x.bran),.slice none 0 0,.int .u8 0,.int .u64 0,.string ⟨#[]⟩,.slice none 0 0,.slice none 0 0]).toList) rfl rfl rfl ff rfl Wj Wz vq #[.bool false,.int .u64 0,.string ⟨#[]⟩,.int .u32 (x.fmt:Int),.string (str x.glob),.string (str x.bran),.slice none 0 0,.int .u8 0,.int .u64 0,.string ⟨#[]⟩,.slice none 0 0,.slice none 0 0] Wz ?_
 | have qq2l:=qq2l
   refine zK (g:=zb) (j:=0) (v:=.agg #[.bool false,.int .u64 0,.string ⟨#[]⟩,.int .u32 0,.string ⟨#[]⟩,.string ⟨#[]⟩,.slice none 0 0,.int .u8 (x.kind:Int),.int .u64 (x.n:Int),.string (str x.s),.slice h1.A1 x.keys.length h1.c1,.slice h1.A2 x.list.length h1.c2]) (vs:=(#[.bool false,.int .u64 0,.string ⟨#[]⟩,.int .u32 0,.string ⟨#[]⟩,.string ⟨#[]⟩,.slice none 0 0,.int .u8 (x.kind:Int),.int .u64 (x.n:Int),.string (str x.s),.slice h1.A1 x.keys.length h1.c1,.slice h1.A2 x.list.length h1.c2]).toList) rfl rfl rfl ff rfl Wj Wz vq #[.bool false,.int .u64 0,.string ⟨#[]⟩,.int .u32 0,.string ⟨#[]⟩,.string ⟨#[]⟩,.slice none 0 0,.int .u8 (x.kind:Int),.int .u64 (x.n:Int),.string (str x.s),.slice h1.A1 x.keys.length h1.c1,.slice h1.A2 x.list.length h1.c2] Wz ?_
 | refine zK (g:=zb) (j:=0) (v:=.agg #[.bool false,.int .u64 0,.string ⟨#[]⟩,.int .u32 0,.string ⟨#[]⟩,.string ⟨#[]⟩,.slice A2 Q.length c2,.int .u8 0,.int .u64 0,.string ⟨#[]⟩,.slice none 0 0,.slice none 0 0]) (vs:=(#[.bool false,.int .u64 0,.string ⟨#[]⟩,.int .u32 0,.string ⟨#[]⟩,.string ⟨#[]⟩,.slice A2 Q.length c2,.int .u8 0,.int .u64 0,.string ⟨#[]⟩,.slice none 0 0,.slice none 0 0]).toList) rfl rfl rfl ff rfl Wj Wz vq #[.bool false,.int .u64 0,.string ⟨#[]⟩,.int .u32 0,.string ⟨#[]⟩,.string ⟨#[]⟩,.slice A2 Q.length c2,.int .u8 0,.int .u64 0,.string ⟨#[]⟩,.slice none 0 0,.slice none 0 0] Wz ?_
 intro we oY cf _
 first
 | have qq2n:=qq2n
   have BI:Box we ab 80 #[.bool false,.int .u64 0,.string ⟨#[]⟩,.int .u32 0,.string ⟨#[]⟩,.string ⟨#[]⟩,.slice none 0 0,.int .u8 0,.int .u64 0,.string ⟨#[]⟩,.slice none 0 0,.slice none 0 0]:=hS.grown cf (sne Wq)
 | have qq2m:=qq2m
   have BI:Box we ab 80 #[.bool false,.int .u64 0,.string ⟨#[]⟩,.int .u32 (x.fmt:Int),.string (str x.glob),.string (str x.bran),.slice none 0 0,.int .u8 0,.int .u64 0,.string ⟨#[]⟩,.slice none 0 0,.slice none 0 0]:=hS.grown cf (sne Wq)
 | have qq2l:=qq2l
   have BI:Box we ab 80 #[.bool false,.int .u64 0,.string ⟨#[]⟩,.int .u32 0,.string ⟨#[]⟩,.string ⟨#[]⟩,.slice none 0 0,.int .u8 (x.kind:Int),.int .u64 (x.n:Int),.string (str x.s),.slice h1.A1 x.keys.length h1.c1,.slice h1.A2 x.list.length h1.c2]:=hS.grown cf (sne Wq)
 | have BI:Box we ab 80 #[.bool false,.int .u64 0,.string ⟨#[]⟩,.int .u32 0,.string ⟨#[]⟩,.string ⟨#[]⟩,.slice A2 Q.length c2,.int .u8 0,.int .u64 0,.string ⟨#[]⟩,.slice none 0 0,.slice none 0 0]:=hS.grown cf (sne Wq)
 have i0:=H6.grown cf H6.size Wx;first|(have qq2n:=qq2n;have oL:=(hr.keep (w':=we) (fun g hg=>i0.block g (hF g hg)) i0.size).cut 0 Wq)|(have oL:=(hr.keep (w':=we) (fun g hg=>i0.block g (hF g hg)) i0.size).cut k Wq)
 refine hK _ _ BI ?_;clear hK K;try simp only[g_S]
 refine rg_t 5 BI ?_;simp only[g_S];refine zD Wj ?_;go_wp2_with(with_reducible refine h_A ?_);refine zG rfl oY rfl rfl underlying80 rfl Wj rfl ?_
 first
 | have qq2n:=qq2n
   refine⟨ag0 false,ah0,_,_,_,_,rfl,RA.zero _ _ _,oL.mono (fun g hg=>.inl hg),by omega,i0,rfl,fun a' rest hl lH _=>?_⟩;have h2:zw a' (ag0 a'.is)=true:=lH;have e2:a'=ag0 a'.is:=(zL _ _).1 h2;refine⟨by rw[e2];rfl,?_⟩;rw[hl]
   rfl
 | have qq2m:=qq2m
   refine⟨⟨false,0,[],x,[],vl0⟩,ah0,_,_,_,_,rfl,⟨(RA.zero we (FN w.heap.size we) true).n,(RA.zero we (FN w.heap.size we) true).s,gh,(RA.zero we (FN w.heap.size we) true).q,(RA.zero we (FN w.heap.size we) true).ok,(RA.zero we (FN w.heap.size we) true).c,(RA.zero we (FN w.heap.size we) true).v⟩,oL.mono (fun g hg=>.inl hg),by omega,i0,rfl,fun a' rest hl lH Br=>?_⟩;have h2:(decide (((a'.x.err:Nat):Int)=0)&&zw a' (agX a'))=true:=lH;rw[Bool.and_eq_true,decide_eq_true_eq]at h2;obtain⟨h3,h4⟩:=h2;have e2:a'=agX a':=(zL _ _).1 h4
   have bJ:a'.x.ok=true:=by
    cases hk:a'.x.ok
    ·simp[Xd.err,hk]at h3
    rfl
   have lf:l=a'.x.bytes++rest:=by
    rw[hl];(show a'.x.put++rest=_);rw[Xd.put_ok bJ]
   have hg:=iE.out a' rest lf Br.x bJ;(injection hg with g1 g2);(injection g2 with g2 g3);refine⟨by rw[e2,g1];rfl,?_⟩
   rw[g2,lf,List.drop_left]
 | have qq2l:=qq2l
   refine⟨⟨false,0,[],xd0,[],x⟩,⟨none,0,h1⟩,_,_,_,_,rfl,⟨(RA.zero we (FN w.heap.size we) true).n,(RA.zero we (FN w.heap.size we) true).s,(RA.zero we (FN w.heap.size we) true).x,(RA.zero we (FN w.heap.size we) true).q,(RA.zero we (FN w.heap.size we) true).ok,(RA.zero we (FN w.heap.size we) true).c,lh we cf⟩,oL.mono (fun g hg=>.inl hg),by omega,i0,rfl,fun a' rest hl lH Br=>?_⟩;have h2:(decide (errV a'.v=0)&&zw a' (agX2 a'))=true:=lH;rw[Bool.and_eq_true,decide_eq_true_eq]at h2;obtain⟨h3,h4⟩:=h2;have e2:a'=agX2 a':=(zL _ _).1 h4
   have lf:l=vlB a'.v++rest:=by
    rw[hl];(show vlP a'.v++rest=_);rw[vlP,if_pos h3]
   obtain⟨g1,g2⟩:=iE.out a'.v rest lf Br.v h3;refine⟨by rw[e2,g1];rfl,?_⟩
   rw[g2,lf,List.drop_left]
 | have hq:=lh we cf
   refine⟨⟨false,0,[],xd0,Q,vl0⟩,⟨A2,c2,⟨none,0,none,0⟩⟩,_,_,_,_,rfl,⟨(RA.zero we (FN w.heap.size we) true).n,(RA.zero we (FN w.heap.size we) true).s,(RA.zero we (FN w.heap.size we) true).x,hq,BA.out,mS,(RA.zero we (FN w.heap.size we) true).v⟩,oL.mono (fun g hg=>.inl hg),by omega,i0,rfl,fun a' rest hl lH Br=>?_⟩;have h2:(decide (((yf a'.q:Nat):Int)=0)&&zw a' (agQ a'))=true:=lH;rw[Bool.and_eq_true,decide_eq_true_eq]at h2;obtain⟨h3,h4⟩:=h2;have e2:a'=agQ a':=(zL _ _).1 h4
   have im:zW a'.q=true∧a'.q.length≤1000:=by
    exact Z66_
   obtain⟨g1,g2⟩:=iE.out a' rest hl im.1 im.2 Br.q;refine⟨by rw[e2,g1];rfl,?_⟩;rw[g2,hl]
   exact List.drop_left):p:=h
theorem Zd_(h:p:=by
 obtain⟨zb,w1,eT,fO,hZ,Ha⟩:=zg w #[.bool false,.int .u64 0,.string ⟨#[]⟩,.int .u32 0,.string ⟨#[]⟩,.string ⟨#[]⟩,.slice none 0 0,.int .u8 0,.int .u64 0,.string ⟨#[]⟩,.slice none 0 0,.slice none 0 0] 80;have BD:l.length=n:=RdB.length (show RdB w w.heap.size A n c l from hr.1);have da:RdB w w.heap.size A n c l:=hr.1;have cS:=yZ A n c l w1 (yU (da.below Ha) Ha.size) Wq;have tg:w.heap.size≤zb:=by omega
 go_enter func112,ntmps112;go_upto_region 1 with fail;rw[←eT,←fO];clear eT fO;go_wp2_with(with_reducible refine h_A ?_);refine cS.mono ?_;rintro e w2 ⟨ob,rfl,rA,hR,Hc⟩;have fq:=hZ.below Hc;have BT:=Ha.trans (Hc.mono Ha.size);have BW:=Ha.size;have tD:=hZ.lt;clear cS hZ Ha Hc;obtain⟨ab,w3,Br,gr,hX,Hh⟩:=zg w2 #[.bool false,.int .u64 0,.string ⟨#[]⟩,.int .u32 0,.string ⟨#[]⟩,.string ⟨#[]⟩,.slice none 0 0,.int .u8 0,.int .u64 0,.string ⟨#[]⟩,.slice none 0 0,.slice none 0 0] 80;go_upto_region 3 with fail;rw[←Br,←gr];have gI:=fq.below Hh;have Bo:=BT.trans (Hh.mono BT.size);have fx:=hR.below Hh;have oz:=fq.lt;have CU:zb<ab:=by omega
 have ez:w2.heap.size≤ab:=by omega
 have Di:ob<ab:=by have:=hR.lt;omega
 have mP:∀g,(w1.heap.size≤g∧g<w2.heap.size)→g≠ab∧g≠zb:=fun g hg=>by omega
 clear Br gr fq BT hR Hh
 first
 | have qq2s:=qq2s
   have fS:=qd 100 4 rfl w3;have gL:=yG fx 4 Wq Wq;have hlt:=xg l false 4;have bQ:=xL l false 4;have HT:=Lib.hid (Y6 100 4 Wq (fun _=>rfl) (fun a h=>Ys h) l);rw[show((100:Nat):Int)=100 from rfl,show((4:Nat):Int)=4 from rfl]at fS;rw[show((4:Nat):Int)=4 from rfl]at HT
   obtain⟨T,hT⟩:∃t,t=mnum l false 4:=⟨_,rfl⟩
 | have qq2r:=qq2r
   have fS:=qd 119 2 rfl w3;have gL:=yG fx 2 Wq Wq;have hlt:=xg l false 2;have bQ:=xL l false 2;have HT:=Lib.hid (Y6 119 2 Wq (fun _=>rfl) (fun a h=>Ys h) l);rw[show((119:Nat):Int)=119 from rfl,show((2:Nat):Int)=2 from rfl]at fS;rw[show((2:Nat):Int)=2 from rfl]at HT
   obtain⟨T,hT⟩:∃t,t=mnum l false 2:=⟨_,rfl⟩
 | have qq2q:=qq2q
   have fS:=qd 110 1 rfl w3;have gL:=yG fx 1 Wq Wq;have hlt:=xg l false 1;have bQ:=xL l false 1;have HT:=Lib.hid (Y6 110 1 Wq (fun _=>rfl) (fun a h=>Ys h) l);rw[show((110:Nat):Int)=110 from rfl,show((1:Nat):Int)=1 from rfl]at fS;rw[show((1:Nat):Int)=1 from rfl]at HT
   obtain⟨T,hT⟩:∃t,t=mnum l false 1:=⟨_,rfl⟩
 | have qq2p:=qq2p
   have fS:=qd 116 2 rfl w3;have gL:=je fx 2 65535 Wq Wq Wq Wq;have hlt:=yY l false 2 65535;have bQ:=qY l false 2 65535;have HT:=Lib.hid (Jy 116 2 Wq (fun _=>rfl) (fun a h=>Jj h) l);rw[show((116:Nat):Int)=116 from rfl,show((2:Nat):Int)=2 from rfl]at fS;rw[show((2:Nat):Int)=2 from rfl]at HT;rw[show((65535:Nat):Int)=65535 from rfl]at hlt
   obtain⟨T,hT⟩:∃t,t=zT l false 2 65535:=⟨_,rfl⟩
 | have fS:=qd 115 1 rfl w3
   have gL:=je fx 1 65535 Wq Wq Wq Wq;have hlt:=yY l false 1 65535;have bQ:=qY l false 1 65535;have HT:=Lib.hid (Jy 115 1 Wq (fun _=>rfl) (fun a h=>Jj h) l);rw[show((115:Nat):Int)=115 from rfl,show((1:Nat):Int)=1 from rfl]at fS;rw[show((1:Nat):Int)=1 from rfl]at HT;rw[show((65535:Nat):Int)=65535 from rfl]at hlt;obtain⟨T,hT⟩:∃t,t=zT l false 1 65535:=⟨_,rfl⟩
 rw[←hT]at gL hlt bQ HT;obtain⟨x,l2,b2⟩:=T;simp only at gL hlt bQ;clear hT;go_wp2_with(with_reducible refine h_A ?_);refine fS.mono ?_;rintro e w4 ⟨rfl,rfl⟩;clear fS;go_wp2_with(with_reducible refine h_A ?_);refine gL.mono ?_;rintro e w4 ⟨rfl,gy,Bb⟩;have Bg:=hX.grown Bb (sne Wq);have ir:=gI.grown Bb (sne Wq);have BG:=Bo.grown Bb Bo.size Wx;clear gL hX gI fx Bb Bo;try simp only at gy
 go_wp2_with(with_reducible refine h_B ?_)
 first
 | have qq2s:=qq2s
   refine zc (zm (v:=.int .u64 (x:Int)) (vs:=[.int .u64 (x:Int)]) rfl rfl rfl rfl Bg rfl Wj Wz wX #[.bool false,.int .u64 (x:Int),.string ⟨#[]⟩,.int .u32 0,.string ⟨#[]⟩,.string ⟨#[]⟩,.slice none 0 0,.int .u8 0,.int .u64 0,.string ⟨#[]⟩,.slice none 0 0,.slice none 0 0] Wz ?_)
 | have qq2r:=qq2r
   refine zc (zm (v:=.int .u64 (x:Int)) (vs:=[.int .u64 (x:Int)]) rfl rfl rfl rfl Bg rfl Wj Wz wX #[.bool false,.int .u64 (x:Int),.string ⟨#[]⟩,.int .u32 0,.string ⟨#[]⟩,.string ⟨#[]⟩,.slice none 0 0,.int .u8 0,.int .u64 0,.string ⟨#[]⟩,.slice none 0 0,.slice none 0 0] Wz ?_)
 | have qq2q:=qq2q
   refine zc (zm (v:=.int .u64 (x:Int)) (vs:=[.int .u64 (x:Int)]) rfl rfl rfl rfl Bg rfl Wj Wz wX #[.bool false,.int .u64 (x:Int),.string ⟨#[]⟩,.int .u32 0,.string ⟨#[]⟩,.string ⟨#[]⟩,.slice none 0 0,.int .u8 0,.int .u64 0,.string ⟨#[]⟩,.slice none 0 0,.slice none 0 0] Wz ?_)
 | refine zc (zm (v:=.string (str x)) (vs:=[.string (str x)]) rfl rfl rfl rfl Bg rfl Wj Wz wX #[.bool false,.int .u64 0,.string (str x),.int .u32 0,.string ⟨#[]⟩,.string ⟨#[]⟩,.slice none 0 0,.int .u8 0,.int .u64 0,.string ⟨#[]⟩,.slice none 0 0,.slice none 0 0] Wz ?_)
 intro w5 BZ bc _;have ew:=gy.kept bc (fun g hg bG=>by injection hg with hg;have:=mP g bG;omega);have ff:=ir.grown bc (sne Wq);have H6:=BG.grown bc BG.size Wx;clear Bg ir gy bc BG;obtain⟨A2,c2,nV,nN⟩:=ew.rdx;have cR:=ew.len
 first
 | have qq2s:=qq2s
   go_upto_region 9 with fail;refine zt (fun W:World=>Box W ab 80 #[.bool false,.int .u64 (x:Int),.string ⟨#[]⟩,.int .u32 0,.string ⟨#[]⟩,.string ⟨#[]⟩,.slice none 0 0,.int .u8 0,.int .u64 0,.string ⟨#[]⟩,.slice none 0 0,.slice none 0 0]∧W.cell? ⟨ob,0,none⟩=some (.slice A2 l2.length c2)) Wj ?_
   have hS:Box w5.drew ab 80 #[.bool false,.int .u64 (x:Int),.string ⟨#[]⟩,.int .u32 0,.string ⟨#[]⟩,.string ⟨#[]⟩,.slice none 0 0,.int .u8 0,.int .u64 0,.string ⟨#[]⟩,.slice none 0 0,.slice none 0 0]∧w5.drew.cell? ⟨ob,0,none⟩=some (.slice A2 l2.length c2):=⟨BZ,nV⟩
 | have qq2r:=qq2r
   go_upto_region 9 with fail;refine zt (fun W:World=>Box W ab 80 #[.bool false,.int .u64 (x:Int),.string ⟨#[]⟩,.int .u32 0,.string ⟨#[]⟩,.string ⟨#[]⟩,.slice none 0 0,.int .u8 0,.int .u64 0,.string ⟨#[]⟩,.slice none 0 0,.slice none 0 0]∧W.cell? ⟨ob,0,none⟩=some (.slice A2 l2.length c2)) Wj ?_
   have hS:Box w5.drew ab 80 #[.bool false,.int .u64 (x:Int),.string ⟨#[]⟩,.int .u32 0,.string ⟨#[]⟩,.string ⟨#[]⟩,.slice none 0 0,.int .u8 0,.int .u64 0,.string ⟨#[]⟩,.slice none 0 0,.slice none 0 0]∧w5.drew.cell? ⟨ob,0,none⟩=some (.slice A2 l2.length c2):=⟨BZ,nV⟩
 | have qq2q:=qq2q
   go_upto_region 9 with fail;refine zt (fun W:World=>Box W ab 80 #[.bool false,.int .u64 (x:Int),.string ⟨#[]⟩,.int .u32 0,.string ⟨#[]⟩,.string ⟨#[]⟩,.slice none 0 0,.int .u8 0,.int .u64 0,.string ⟨#[]⟩,.slice none 0 0,.slice none 0 0]∧W.cell? ⟨ob,0,none⟩=some (.slice A2 l2.length c2)) Wj ?_
   have hS:Box w5.drew ab 80 #[.bool false,.int .u64 (x:Int),.string ⟨#[]⟩,.int .u32 0,.string ⟨#[]⟩,.string ⟨#[]⟩,.slice none 0 0,.int .u8 0,.int .u64 0,.string ⟨#[]⟩,.slice none 0 0,.slice none 0 0]∧w5.drew.cell? ⟨ob,0,none⟩=some (.slice A2 l2.length c2):=⟨BZ,nV⟩
 | go_upto_region 13 with fail
   refine zt (fun W:World=>Box W ab 80 #[.bool false,.int .u64 0,.string (str x),.int .u32 0,.string ⟨#[]⟩,.string ⟨#[]⟩,.slice none 0 0,.int .u8 0,.int .u64 0,.string ⟨#[]⟩,.slice none 0 0,.slice none 0 0]∧W.cell? ⟨ob,0,none⟩=some (.slice A2 l2.length c2)) Wj ?_;have hS:Box w5.drew ab 80 #[.bool false,.int .u64 0,.string (str x),.int .u32 0,.string ⟨#[]⟩,.string ⟨#[]⟩,.slice none 0 0,.int .u8 0,.int .u64 0,.string ⟨#[]⟩,.slice none 0 0,.slice none 0 0]∧w5.drew.cell? ⟨ob,0,none⟩=some (.slice A2 l2.length c2):=⟨BZ,nV⟩
 replace nN:RdX w5.drew (fun g=>w1.heap.size≤g∧g<w2.heap.size) 1 A2 l2.length c2 (l2.map u8v):=nN.keep (fun g hg=>rfl) (Nat.le_refl _);replace H6:=za H6 1;replace ff:Box w5.drew zb 80 #[.bool false,.int .u64 0,.string ⟨#[]⟩,.int .u32 0,.string ⟨#[]⟩,.string ⟨#[]⟩,.slice none 0 0,.int .u8 0,.int .u64 0,.string ⟨#[]⟩,.slice none 0 0,.slice none 0 0]:=ff;have H6:Below w.heap.size w w5.drew:=H6;clear BZ ew nV;generalize w5.drew=wd at*;refine ze 0 (v:=?_) rfl Wj Wj Wj hS rfl ?_ ?_;rotate_left
 ·intro wS He;have y0:=He.1.cell (j:=0) rfl;have y1:=He.1.cell (j:=1) rfl;have y2:=He.1.cell (j:=2) rfl;have y3:=He.1.cell (j:=3) rfl;have y4:=He.1.cell (j:=4) rfl;have y5:=He.1.cell (j:=5) rfl;have y6:=He.1.cell (j:=6) rfl;have y7:=He.1.cell (j:=7) rfl;have y8:=He.1.cell (j:=8) rfl;have y9:=He.1.cell (j:=9) rfl;have yA:=He.1.cell (j:=10) rfl;have yB:=He.1.cell (j:=11) rfl;go_simp;(with_reducible rfl)
 simp only[List.getElem_toArray,List.getElem_cons_zero,Act.put,List.setIfInBounds_toArray,List.set_cons_zero,List.set_cons_succ];refine rg_t 1 hS ?_;simp only[g_S];refine rg_t 2 hS ?_;simp only[g_S];refine rg_t 3 hS ?_;simp only[g_S];refine ze 4 (v:=?_) rfl Wj Wj Wj hS rfl ?_ ?_;rotate_left
 ·intro wS He;have y0:=He.2;go_simp;(with_reducible rfl)
 simp only[g_S];refine zj 5 rfl Wj rfl (fun K hK=>?_)
 first
 | have qq2s:=qq2s
   refine zK (g:=zb) (j:=0) (v:=.agg #[.bool false,.int .u64 (x:Int),.string ⟨#[]⟩,.int .u32 0,.string ⟨#[]⟩,.string ⟨#[]⟩,.slice none 0 0,.int .u8 0,.int .u64 0,.string ⟨#[]⟩,.slice none 0 0,.slice none 0 0]) (vs:=(#[.bool false,.int .u64 (x:Int),.string ⟨#[]⟩,.int .u32 0,.string ⟨#[]⟩,.string ⟨#[]⟩,.slice none 0 0,.int .u8 0,.int .u64 0,.string ⟨#[]⟩,.slice none 0 0,.slice none 0 0]).toList) rfl rfl rfl ff rfl Wj Wz vq #[.bool false,.int .u64 (x:Int),.string ⟨#[]⟩,.int .u32 0,.string ⟨#[]⟩,.string ⟨#[]⟩,.slice none 0 0,.int .u8 0,.int .u64 0,.string ⟨#[]⟩,.slice none 0 0,.slice none 0 0] Wz ?_
 | have qq2r:=qq2r
   refine zK (g:=zb) (j:=0) (v:=.agg #[.bool false,.int .u64 (x:Int),.string ⟨#[]⟩,.int .u32 0,.string ⟨#[]⟩,.string ⟨#[]⟩,.slice none 0 0,.int .u8 0,.int .u64 0,.string ⟨#[]⟩,.slice none 0 0,.slice none 0 0]) (vs:=(#[.bool false,.int .u64 (x:Int),.string ⟨#[]⟩,.int .u32 0,.string ⟨#[]⟩,.string ⟨#[]⟩,.slice none 0 0,.int .u8 0,.int .u64 0,.string ⟨#[]⟩,.slice none 0 0,.slice none 0 0]).toList) rfl rfl rfl ff rfl Wj Wz vq #[.bool false,.int .u64 (x:Int),.string ⟨#[]⟩,.int .u32 0,.string ⟨#[]⟩,.string ⟨#[]⟩,.slice none 0 0,.int .u8 0,.int .u64 0,.string ⟨#[]⟩,.slice none 0 0,.slice none 0 0] Wz ?_
 | have qq2q:=qq2q
   refine zK (g:=zb) (j:=0) (v:=.agg #[.bool false,.int .u64 (x:Int),.string ⟨#[]⟩,.int .u32 0,.string ⟨#[]⟩,.string ⟨#[]⟩,.slice none 0 0,.int .u8 0,.int .u64 0,.string ⟨#[]⟩,.slice none 0 0,.slice none 0 0]) (vs:=(#[.bool false,.int .u64 (x:Int),.string ⟨#[]⟩,.int .u32 0,.string ⟨#[]⟩,.string ⟨#[]⟩,.slice none 0 0,.int .u8 0,.int .u64 0,.string ⟨#[]⟩,.slice none 0 0,.slice none 0 0]).toList) rfl rfl rfl ff rfl Wj Wz vq #[.bool false,.int .u64 (x:Int),.string ⟨#[]⟩,.int .u32 0,.string ⟨#[]⟩,.string ⟨#[]⟩,.slice none 0 0,.int .u8 0,.int .u64 0,.string ⟨#[]⟩,.slice none 0 0,.slice none 0 0] Wz ?_
 | refine zK (g:=zb) (j:=0) (v:=.agg #[.bool false,.int .u64 0,.string (str x),.int .u32 0,.string ⟨#[]⟩,.string ⟨#[]⟩,.slice none 0 0,.int .u8 0,.int .u64 0,.string ⟨#[]⟩,.slice none 0 0,.slice none 0 0]) (vs:=(#[.bool false,.int .u64 0,.string (str x),.int .u32 0,.string ⟨#[]⟩,.string ⟨#[]⟩,.slice none 0 0,.int .u8 0,.int .u64 0,.string ⟨#[]⟩,.slice none 0 0,.slice none 0 0]).toList) rfl rfl rfl ff rfl Wj Wz vq #[.bool false,.int .u64 0,.string (str x),.int .u32 0,.string ⟨#[]⟩,.string ⟨#[]⟩,.slice none 0 0,.int .u8 0,.int .u64 0,.string ⟨#[]⟩,.slice none 0 0,.slice none 0 0] Wz ?_
 intro we oY cf _
 first
 | have qq2s:=qq2s
   have BI:Box we ab 80 #[.bool false,.int .u64 (x:Int),.string ⟨#[]⟩,.int .u32 0,.string ⟨#[]⟩,.string ⟨#[]⟩,.slice none 0 0,.int .u8 0,.int .u64 0,.string ⟨#[]⟩,.slice none 0 0,.slice none 0 0]∧we.cell? ⟨ob,0,none⟩=some (.slice A2 l2.length c2):=⟨hS.1.grown cf (sne Wq),cf.cell hS.2 mJ⟩
 | have qq2r:=qq2r
   have BI:Box we ab 80 #[.bool false,.int .u64 (x:Int),.string ⟨#[]⟩,.int .u32 0,.string ⟨#[]⟩,.string ⟨#[]⟩,.slice none 0 0,.int .u8 0,.int .u64 0,.string ⟨#[]⟩,.slice none 0 0,.slice none 0 0]∧we.cell? ⟨ob,0,none⟩=some (.slice A2 l2.length c2):=⟨hS.1.grown cf (sne Wq),cf.cell hS.2 mJ⟩
 | have qq2q:=qq2q
   have BI:Box we ab 80 #[.bool false,.int .u64 (x:Int),.string ⟨#[]⟩,.int .u32 0,.string ⟨#[]⟩,.string ⟨#[]⟩,.slice none 0 0,.int .u8 0,.int .u64 0,.string ⟨#[]⟩,.slice none 0 0,.slice none 0 0]∧we.cell? ⟨ob,0,none⟩=some (.slice A2 l2.length c2):=⟨hS.1.grown cf (sne Wq),cf.cell hS.2 mJ⟩
 | have BI:Box we ab 80 #[.bool false,.int .u64 0,.string (str x),.int .u32 0,.string ⟨#[]⟩,.string ⟨#[]⟩,.slice none 0 0,.int .u8 0,.int .u64 0,.string ⟨#[]⟩,.slice none 0 0,.slice none 0 0]∧we.cell? ⟨ob,0,none⟩=some (.slice A2 l2.length c2):=⟨hS.1.grown cf (sne Wq),cf.cell hS.2 mJ⟩
 have i0:=H6.grown cf H6.size Wx;have oL:=nN.keep (w':=we) (fun g hg=>cf.block g (by have:=H6.size;have:=hS.1.lt;omega) (by intro e;injection e with e;have:=mP g hg;omega)) cf.size;refine hK _ _ BI ?_;clear hK K;try simp only[g_S]
 refine rg_t 6 BI ?_;simp only[g_S];refine zD Wj ?_;go_wp2_with(with_reducible refine h_A ?_);refine zG rfl oY rfl rfl underlying80 rfl Wj rfl ?_
 first
 | have qq2s:=qq2s
   refine⟨⟨false,x,[],xd0,[],vl0⟩,ah0,A2,l2.length,c2,l2,rfl,⟨hlt,(RA.zero we (FN w.heap.size we) true).s,(RA.zero we (FN w.heap.size we) true).x,(RA.zero we (FN w.heap.size we) true).q,(RA.zero we (FN w.heap.size we) true).ok,(RA.zero we (FN w.heap.size we) true).c,(RA.zero we (FN w.heap.size we) true).v⟩,oL.mono (fun g hg=>.inr ⟨by omega,by have:=H6.size;have:=cf.size;have:=hS.1.lt;omega⟩),by omega,i0,rfl,HT.out⟩
 | have qq2r:=qq2r
   refine⟨⟨false,x,[],xd0,[],vl0⟩,ah0,A2,l2.length,c2,l2,rfl,⟨hlt,(RA.zero we (FN w.heap.size we) true).s,(RA.zero we (FN w.heap.size we) true).x,(RA.zero we (FN w.heap.size we) true).q,(RA.zero we (FN w.heap.size we) true).ok,(RA.zero we (FN w.heap.size we) true).c,(RA.zero we (FN w.heap.size we) true).v⟩,oL.mono (fun g hg=>.inr ⟨by omega,by have:=H6.size;have:=cf.size;have:=hS.1.lt;omega⟩),by omega,i0,rfl,HT.out⟩
 | have qq2q:=qq2q
   refine⟨⟨false,x,[],xd0,[],vl0⟩,ah0,A2,l2.length,c2,l2,rfl,⟨hlt,(RA.zero we (FN w.heap.size we) true).s,(RA.zero we (FN w.heap.size we) true).x,(RA.zero we (FN w.heap.size we) true).q,(RA.zero we (FN w.heap.size we) true).ok,(RA.zero we (FN w.heap.size we) true).c,(RA.zero we (FN w.heap.size we) true).v⟩,oL.mono (fun g hg=>.inr ⟨by omega,by have:=H6.size;have:=cf.size;have:=hS.1.lt;omega⟩),by omega,i0,rfl,HT.out⟩
 | refine⟨⟨false,0,x,xd0,[],vl0⟩,ah0,A2,l2.length,c2,l2,rfl,⟨(RA.zero we (FN w.heap.size we) true).n,(by show x.length≤_;omega),(RA.zero we (FN w.heap.size we) true).x,(RA.zero we (FN w.heap.size we) true).q,(RA.zero we (FN w.heap.size we) true).ok,(RA.zero we (FN w.heap.size we) true).c,(RA.zero we (FN w.heap.size we) true).v⟩,oL.mono (fun g hg=>.inr ⟨by omega,by have:=H6.size;have:=cf.size;have:=hS.1.lt;omega⟩),by omega,i0,rfl,HT.out⟩):p:=h
theorem Z4u_(h:p:=by
 go_wp2_with(with_reducible refine h_A ?_);refine eF.mono ?_;rintro e w1 ⟨rfl,Ha⟩;go_wp2_with(with_reducible refine h_A ?_);go_ret2
 exact⟨none,0,rfl,Own.none_ _ _ _ _,Ha⟩):p:=h
theorem Ze_(h:p:=by
 have hl:=hr.length;first|(have qq2x:=qq2x;have eF:=Yx A n c l B w hr hb hB Wq)|(have eF:=XB A n c l B w hr hb hB Wq)
 cases B3:zW l
 ·rw[B3]at eF;have e1:yL l=[]:=by simp[yL,B3]
  have e2:yf l=30:=by simp[yf,B3]
  rw[e1,e2];first|(have qq2x:=qq2x;go_enter func97,ntmps97)|(go_enter func104,ntmps104)
  exact Z4u_
 rw[B3]at eF;by_cases Ly:1000<n
 ·have e1:yL l=[]:=by simp[yL];omega
  have e2:yf l=6:=by simp[yf,B3];omega
  rw[e1,e2];have hd:(1000:Int)<(n:Int):=by omega
  clear B3 e1 e2;first|(have qq2x:=qq2x;go_enter func97,ntmps97)|(go_enter func104,ntmps104)
  exact Z4u_
 have e1:yL l=be 2 (8*n)++yg l:=by rw[yL,if_pos ⟨B3,by omega⟩,hl]
 have e2:yf l=0:=by rw[yf,if_pos B3,if_pos Wq]
 rw[e1,e2];have hd:¬(1000:Int)<(n:Int):=by omega
 clear B3 e1 e2;first|(have qq2x:=qq2x;go_enter func97,ntmps97)|(go_enter func104,ntmps104)
 go_wp2_with(with_reducible refine h_A ?_);refine eF.mono ?_;rintro e w1 ⟨rfl,Ha⟩;have Oa:IntKind.i64.wrap (8*(n:Int))=((8*n:Nat):Int):=by rw[IntWalk.i64_in _ ⟨by omega,by omega⟩];omega
 have Rn:IntKind.u64.wrap ((8*n:Nat):Int)=((8*n:Nat):Int):=IntWalk.u64_in _ ⟨by omega,by omega⟩
 first
 | have qq2x:=qq2x
   have fW:=ye (8*n) 2 w1 Wq Wq
 | have fW:=yR none 0 0 [] (8*n) 2 w1 (Rd.nil _ _ _ _ WX _) Wq Wq
   rw[put2,List.nil_append]at fW
 obtain⟨n8,py⟩:∃n8,n8=8*n:=⟨_,rfl⟩
 rw[←py]at Oa Rn fW;have Pc:=Lib.hid py;clear py;go_wp2_with(with_reducible refine h_A ?_);refine fW.mono ?_;rintro e w2 ⟨A2,c2,rfl,bW,Hc⟩;have H3:=Ha.trans (Hc.mono Ha.size);have oF:=bW.base_le Ha.size;rw[Pc.out]at oF;first|done|(have qq2x:=qq2x)|(rw[zr]at oF ⊢)
 clear bW Ha Hc fW;go_wp2_with(with_reducible refine h_A ?_)
 first
 | have qq2x:=qq2x
   go_loopw [5,4] (fun s v wr=>∃(k N c2:Nat) (A2:Option Addr) (out:List UInt8),k≤n∧s= .int .i64 k∧v= .slice A2 N c2∧N=2+8*k∧out=be 2 (8*n)++yg (l.take k)∧Own wr w.heap.size 5 1 A2 N c2 (out.map u8v)∧Below w.heap.size w wr) (fun s _ _=>n-(intOf s).toNat)
 | go_loopw [20,4] (fun s v wr=>∃(k N c2:Nat) (A2:Option Addr) (out:List UInt8),k≤n∧s= .int .i64 k∧v= .slice A2 N c2∧N=2+8*k∧out=be 2 (8*n)++yg (l.take k)∧Own wr w.heap.size 5 1 A2 N c2 (out.map u8v)∧Below w.heap.size w wr) (fun s _ _=>n-(intOf s).toNat)
 case atStart=>exact⟨0,2,c2,A2,be 2 (8*n),by omega,rfl,rfl,by omega,by simp[yg],oF,H3⟩
 clear oF H3;obtain⟨k,N,c2,A2,out,hk,rfl,rfl,hN,cQ,ho,bO⟩:=hrel;by_cases hlt:k<n
 ·obtain⟨b,off,rfl,dP,bK,ik,ck⟩:=RdS.at_k (hr.below (bO.mono hB)) hlt;have lh:=hb l[k] (List.getElem_mem bK);have dR:=vV bK;have HN:Hid (be 2 (8*n)++yg (l.take (k+1))=(out++be 4 l[k].1)++be 4 l[k].2):=Lib.hid (by rw[dR,cQ];simp);clear dR cQ
  first
  | have qq2x:=qq2x
    generalize l[k].1=f at*;generalize l[k].2=t at*
    have ef:b<wr.heap.size:=World.block_lt_of_cell? wr _ ik
  | skip
  have tK:=Lib.hid hN;have Lq:N≤10000:=by omega
  clear hN
  first
  | have qq2x:=qq2x
    go_wp2_with(with_reducible refine h_A ?_);refine(ye f 4 wr Wq Wq).mono ?_;rintro e w3 ⟨A3,c3,rfl,Bx,Hh⟩;have gz:=bO.trans (Hh.mono bO.size);have CA:=zi ho Hh;go_wp2_with(with_reducible refine h_A ?_);refine zc (yc slB rfl rfl rfl rfl CA Bx.rd (zM _) Wq UJ gz.size ?_);intro A4 c4 w4 Bv Bb _;have Hn:=gz.grown Bb gz.size (fun g hg=>(CA.blk_lt hg).1);rw[←List.map_append]at Bv
    have Re:w4.cell? ⟨b,off+k*2+1,none⟩=some (.int .u32 (t:Int)):=by
     have h1:=(Hh.cell (p:=⟨b,off+k*2+1,none⟩) ef).trans ck;refine Bb.cell h1 (fun e=>?_);have h2:=(CA.blk_lt e.symm).1;(have h3:b<w.heap.size:=by omega);exact absurd h2 (by show ¬w.heap.size≤b;omega)
    clear Bb CA Bx ik ck
  | generalize l[k].1=f at*
    generalize l[k].2=t at*;have Hc:Below w.heap.size w (wr.alloc (.cells #[.int .u32 (f:Int),.int .u32 (t:Int)] 208)):=bO.alloc bO.size _;have bW:Own (wr.alloc (.cells #[.int .u32 (f:Int),.int .u32 (t:Int)] 208)) w.heap.size 5 1 A2 N c2 (out.map u8v):=ho.alloc _;have hq:(wr.alloc (.cells #[.int .u32 (f:Int),.int .u32 (t:Int)] 208)).drew.cell? ⟨wr.heap.size,0,none⟩=some (.int .u32 (f:Int))∧(wr.alloc (.cells #[.int .u32 (f:Int),.int .u32 (t:Int)] 208)).drew.cell? ⟨wr.heap.size,1,none⟩=some (.int .u32 (t:Int)):=⟨World.cell?_alloc_new _ _ _ _,World.cell?_alloc_new _ _ _ _⟩
  go_wp2_with(with_reducible refine h_A ?_)
  first
  | have qq2x:=qq2x
    refine(ye t 4 w4 Wq Wq).mono ?_
  | have gh:IntKind.u64.wrap ((f:Nat):Int)=(f:Int):=IntWalk.u64_in _ ⟨by omega,by omega⟩
    have hwt:IntKind.u64.wrap ((t:Nat):Int)=(t:Int):=IntWalk.u64_in _ ⟨by omega,by omega⟩;refine zt (fun wx=>wx.cell? ⟨wr.heap.size,0,none⟩=some (.int .u32 (f:Int))∧wx.cell? ⟨wr.heap.size,1,none⟩=some (.int .u32 (t:Int))) Wj ?_;refine rg_t 0 hq ?_;simp only[List.getElem_toArray,List.getElem_cons_zero,Act.put,List.setIfInBounds_toArray,List.set_cons_zero,List.set_cons_succ];refine rg_t 1 hq ?_;simp only[g_S];refine rg_t 2 hq ?_;simp only[g_S];refine rg_t 3 hq ?_;simp only[g_S];refine rg_t 5 hq ?_;simp only[g_S];refine rg_t 6 hq ?_;simp only[g_S];refine rg_t 7 hq ?_;simp only[g_S];have rC:=za Hc 1
    have dh:∀w4:World,Below (wr.alloc (.cells #[.int .u32 (f:Int),.int .u32 (t:Int)] 208)).drew.heap.size (wr.alloc (.cells #[.int .u32 (f:Int),.int .u32 (t:Int)] 208)).drew w4→w4.cell? ⟨wr.heap.size,0,none⟩=some (.int .u32 (f:Int))∧w4.cell? ⟨wr.heap.size,1,none⟩=some (.int .u32 (t:Int)):=fun w4 hb=>
     ⟨(hb.cell (p:=⟨wr.heap.size,0,none⟩) (World.block_lt_of_cell? _ _ hq.1)).trans hq.1,(hb.cell (p:=⟨wr.heap.size,1,none⟩) (World.block_lt_of_cell? _ _ hq.2)).trans hq.2⟩
    have me:=yR A2 N c2 out f 4 (wr.alloc (.cells #[.int .u32 (f:Int),.int .u32 (t:Int)] 208)).drew bW.rd.drew Wq Wq;have fC:out.length=N:=RdB.length ho.rd;(have L1:(out++be 4 f).length=N+4:=by simp[zr,fC]);(have LZ:((out++be 4 f)++be 4 t).length=N+8:=by simp[zr,fC]);rw[put4,L1]at me;refine zj 4 rfl Wj rfl (fun K hK=>?_);go_simp;refine me.mono ?_;rintro e w4 ⟨A4,c4,rfl,Bv,Hn⟩;have tn:=dh _ Hn;have nm:=rC.trans (Hn.mono rC.size);have sC:=Bv.base_le rC.size;have C4:=yR A4 (N+4) c4 (out++be 4 f) t 4 w4 Bv.rd Wq Wq;rw[put4,LZ]at C4;refine hK _ _ tn ?_;clear hK K;refine zj 8 rfl Wj rfl (fun K hK=>?_);go_simp;refine C4.mono ?_
  rintro e w5 ⟨A5,c5,rfl,ct,bz⟩
  first
  | have qq2x:=qq2x
    have E3:=Hn.trans (bz.mono Hn.size);have Lj:=zi Bv bz;go_wp2_with(with_reducible refine h_A ?_);refine zc (yc slB rfl rfl rfl rfl Lj ct.rd (zM _) Wq UJ E3.size ?_);intro A6 c6 w6 bS bm _;have bH:=E3.grown bm E3.size (fun g hg=>(Lj.blk_lt hg).1)
    rw[←List.map_append]at bS
  | have pI:w5.cell? ⟨wr.heap.size,0,none⟩=some (.int .u32 (f:Int))∧w5.cell? ⟨wr.heap.size,1,none⟩=some (.int .u32 (t:Int)):=⟨(bz.cell (p:=⟨wr.heap.size,0,none⟩) (World.block_lt_of_cell? _ _ tn.1)).trans tn.1,(bz.cell (p:=⟨wr.heap.size,1,none⟩) (World.block_lt_of_cell? _ _ tn.2)).trans tn.2⟩
    have SQ:=nm.trans (bz.mono nm.size);have lV:=ct.base_le nm.size;refine hK _ _ pI ?_;clear hK K;refine rg_t 9 pI ?_;simp only[g_S];refine zD Wj ?_
  go_wp2_with(with_reducible refine h_A ?_);have sU:=tK.out;first|(have qq2x:=qq2x;exact⟨⟨k+1,N+4+4,c6,A6,(out++be 4 f)++be 4 t,by omega,by go_num,rfl,by omega,HN.out.symm,bS,bH⟩,by simp[intOf];omega⟩)|(exact⟨⟨k+1,N+8,c5,A5,(out++be 4 f)++be 4 t,by omega,by go_num,rfl,by omega,HN.out.symm,lV,SQ⟩,by simp[intOf];omega⟩)
 obtain rfl:k=n:=by omega
 have HO:Hid (out=be 2 (8*k)++yg l):=Lib.hid (by rw[cQ,List.take_of_length_le Wq]);clear cQ;have bQ:(be 2 (8*k)++yg l).length=N:=by rw[←HO.out];exact RdB.length ho.rd
 have HL:=Lib.hid bQ;clear bQ;go_wp2_with(with_reducible refine h_A ?_);go_ret2;rw[HL.out,←HO.out]
 exact⟨A2,c2,rfl,ho,bO⟩):p:=h
theorem Zf_(h:p:=by
 first
 | have qq32:=qq32
   have cZ:∀W,Below base w W→Calls prog 106 #[.agg #[.bool a.is,.int .u64 (a.n:Int),.string (str a.s),.int .u32 (a.x.fmt:Int),.string (str a.x.glob),.string (str a.x.bran),.slice h.A a.q.length h.c,.int .u8 (a.v.kind:Int),.int .u64 (a.v.n:Int),.string (str a.v.s),.slice h.h.A1 a.v.keys.length h.h.c1,.slice h.h.A2 a.v.list.length h.h.c2],.agg #[.bool a.is,.int .u64 0,.string ⟨#[]⟩,.int .u32 0,.string ⟨#[]⟩,.string ⟨#[]⟩,.slice none 0 0,.int .u8 0,.int .u64 0,.string ⟨#[]⟩,.slice none 0 0,.slice none 0 0]] W (fun e w'=>e= .returned (.bool (zw a (ag0 a.is)))∧Below W.heap.size W w'):=fun W hW=>xI a (ag0 a.is) h ah0 W ((ha.under hW).mono (fun g hg=>Nat.lt_of_lt_of_le hg (Nat.le_trans Hf hW.size))) (((RA.zero w _ a.is:RA w (fun g=>g<base) (ag0 a.is) ah0).under hW).mono (fun g hg=>Nat.lt_of_lt_of_le hg (Nat.le_trans Hf hW.size)))
   generalize Cl:zw a (ag0 a.is)=sr at cZ
 | have qq31:=qq31
   have m4:(a.x.put).length≤2000000:=ZB _;(have ca:=fun W (hW:Below w.heap.size w W)=>Ve a.x W ha.x);have cZ:∀W,Below base w W→Calls prog 106 #[.agg #[.bool a.is,.int .u64 (a.n:Int),.string (str a.s),.int .u32 (a.x.fmt:Int),.string (str a.x.glob),.string (str a.x.bran),.slice h.A a.q.length h.c,.int .u8 (a.v.kind:Int),.int .u64 (a.v.n:Int),.string (str a.v.s),.slice h.h.A1 a.v.keys.length h.h.c1,.slice h.h.A2 a.v.list.length h.h.c2],.agg #[.bool true,.int .u64 0,.string ⟨#[]⟩,.int .u32 (a.x.fmt:Int),.string (str a.x.glob),.string (str a.x.bran),.slice none 0 0,.int .u8 0,.int .u64 0,.string ⟨#[]⟩,.slice none 0 0,.slice none 0 0]] W (fun e w'=>e= .returned (.bool (zw a (agX a)))∧Below W.heap.size W w'):=fun W hW=>xI a (agX a) h ah0 W ((ha.under hW).mono (fun g hg=>Nat.lt_of_lt_of_le hg (Nat.le_trans Hf hW.size))) (((RA.ofX ha:RA w (fun g=>g<base) (agX a) ah0).under hW).mono (fun g hg=>Nat.lt_of_lt_of_le hg (Nat.le_trans Hf hW.size)))
   generalize Cl:zw a (agX a)=sr at cZ
 | have qq30:=qq30
   have m4:(yL a.q).length≤2000000:=ZC _;(have ca:=fun W (hW:Below w.heap.size w W)=>Vh h.A a.q.length h.c a.q w.heap.size W (ha.q.1.below hW) ha.ok hW.size ha.c);have cZ:∀W,Below base w W→Calls prog 106 #[.agg #[.bool a.is,.int .u64 (a.n:Int),.string (str a.s),.int .u32 (a.x.fmt:Int),.string (str a.x.glob),.string (str a.x.bran),.slice h.A a.q.length h.c,.int .u8 (a.v.kind:Int),.int .u64 (a.v.n:Int),.string (str a.v.s),.slice h.h.A1 a.v.keys.length h.h.c1,.slice h.h.A2 a.v.list.length h.h.c2],.agg #[.bool true,.int .u64 0,.string ⟨#[]⟩,.int .u32 0,.string ⟨#[]⟩,.string ⟨#[]⟩,.slice h.A a.q.length h.c,.int .u8 0,.int .u64 0,.string ⟨#[]⟩,.slice none 0 0,.slice none 0 0]] W (fun e w'=>e= .returned (.bool (zw a (agQ a)))∧Below W.heap.size W w'):=fun W hW=>xI a (agQ a) h (ahQ h) W ((ha.under hW).mono (fun g hg=>Nat.lt_of_lt_of_le hg (Nat.le_trans Hf hW.size))) (((RA.ofQ ha:RA w (fun g=>g<base) (agQ a) (ahQ h)).under hW).mono (fun g hg=>Nat.lt_of_lt_of_le hg (Nat.le_trans Hf hW.size)))
   generalize Cl:zw a (agQ a)=sr at cZ
 | have qq2z:=qq2z
   have m4:(zP [] a.s 2).length≤2000000:=ZA _;(have ca:=fun W (hW:Below w.heap.size w W)=>qC none 0 0 [] a.s 2 W (Rd.nil _ _ _ _ WX _) ha.s Wq);have cZ:∀W,Below base w W→Calls prog 106 #[.agg #[.bool a.is,.int .u64 (a.n:Int),.string (str a.s),.int .u32 (a.x.fmt:Int),.string (str a.x.glob),.string (str a.x.bran),.slice h.A a.q.length h.c,.int .u8 (a.v.kind:Int),.int .u64 (a.v.n:Int),.string (str a.v.s),.slice h.h.A1 a.v.keys.length h.h.c1,.slice h.h.A2 a.v.list.length h.h.c2],.agg #[.bool true,.int .u64 0,.string (str a.s),.int .u32 0,.string ⟨#[]⟩,.string ⟨#[]⟩,.slice none 0 0,.int .u8 0,.int .u64 0,.string ⟨#[]⟩,.slice none 0 0,.slice none 0 0]] W (fun e w'=>e= .returned (.bool (zw a (agS a)))∧Below W.heap.size W w'):=fun W hW=>xI a (agS a) h ah0 W ((ha.under hW).mono (fun g hg=>Nat.lt_of_lt_of_le hg (Nat.le_trans Hf hW.size))) (((RA.ofS ha:RA w (fun g=>g<base) (agS a) ah0).under hW).mono (fun g hg=>Nat.lt_of_lt_of_le hg (Nat.le_trans Hf hW.size)))
   generalize Cl:zw a (agS a)=sr at cZ
 | have qq2y:=qq2y
   have m4:(zP [] a.s 1).length≤2000000:=Zz _;(have ca:=fun W (hW:Below w.heap.size w W)=>qC none 0 0 [] a.s 1 W (Rd.nil _ _ _ _ WX _) ha.s Wq);have cZ:∀W,Below base w W→Calls prog 106 #[.agg #[.bool a.is,.int .u64 (a.n:Int),.string (str a.s),.int .u32 (a.x.fmt:Int),.string (str a.x.glob),.string (str a.x.bran),.slice h.A a.q.length h.c,.int .u8 (a.v.kind:Int),.int .u64 (a.v.n:Int),.string (str a.v.s),.slice h.h.A1 a.v.keys.length h.h.c1,.slice h.h.A2 a.v.list.length h.h.c2],.agg #[.bool true,.int .u64 0,.string (str a.s),.int .u32 0,.string ⟨#[]⟩,.string ⟨#[]⟩,.slice none 0 0,.int .u8 0,.int .u64 0,.string ⟨#[]⟩,.slice none 0 0,.slice none 0 0]] W (fun e w'=>e= .returned (.bool (zw a (agS a)))∧Below W.heap.size W w'):=fun W hW=>xI a (agS a) h ah0 W ((ha.under hW).mono (fun g hg=>Nat.lt_of_lt_of_le hg (Nat.le_trans Hf hW.size))) (((RA.ofS ha:RA w (fun g=>g<base) (agS a) ah0).under hW).mono (fun g hg=>Nat.lt_of_lt_of_le hg (Nat.le_trans Hf hW.size)))
   generalize Cl:zw a (agS a)=sr at cZ
 | have m4:(vlP a.v).length≤2000000:=Xq _
   (have ca:=fun W (hW:Below w.heap.size w W)=>JT a.v h.h W ((ha.v.keep (fun g hg=>hW.block g (Nat.lt_of_lt_of_le hg Hf)) hW.size).mono (fun g hg=>Nat.lt_of_lt_of_le hg (Nat.le_trans Hf hW.size))) (hT.on hW));(have cZ:∀W,Below base w W→Calls prog 106 #[.agg #[.bool a.is,.int .u64 (a.n:Int),.string (str a.s),.int .u32 (a.x.fmt:Int),.string (str a.x.glob),.string (str a.x.bran),.slice h.A a.q.length h.c,.int .u8 (a.v.kind:Int),.int .u64 (a.v.n:Int),.string (str a.v.s),.slice h.h.A1 a.v.keys.length h.h.c1,.slice h.h.A2 a.v.list.length h.h.c2],.agg #[.bool true,.int .u64 0,.string ⟨#[]⟩,.int .u32 0,.string ⟨#[]⟩,.string ⟨#[]⟩,.slice none 0 0,.int .u8 (a.v.kind:Int),.int .u64 (a.v.n:Int),.string (str a.v.s),.slice h.h.A1 a.v.keys.length h.h.c1,.slice h.h.A2 a.v.list.length h.h.c2]] W (fun e w'=>e= .returned (.bool (zw a (agX2 a)))∧Below W.heap.size W w'):=fun W hW=>xI a (agX2 a) h (ahV h) W ((ha.under hW).mono (fun g hg=>Nat.lt_of_lt_of_le hg (Nat.le_trans Hf hW.size))) (((RA.ofV ha:RA w (fun g=>g<base) (agX2 a) (ahV h)).under hW).mono (fun g hg=>Nat.lt_of_lt_of_le hg (Nat.le_trans Hf hW.size))));generalize Cl:zw a (agX2 a)=sr at cZ
 have mT:=Lib.hid cZ;clear cZ
 first
 | done
 | have qq32:=qq32
 | have qq31:=qq31
   generalize a.x.put=M at*;generalize((a.x.err:Nat):Int)=E at*;unfold xdV at ca;have rS:=Lib.hid ca;clear ca;(obtain⟨ok,bJ⟩:∃ok,ok=(decide (E=0)&&sr):=⟨_,rfl⟩);rw[←bJ];have BA:=Lib.hid bJ
   clear bJ
 | have qq30:=qq30
   generalize yL a.q=M at*;generalize((yf a.q:Nat):Int)=E at*
   skip
   have rS:=Lib.hid ca;clear ca;(obtain⟨ok,bJ⟩:∃ok,ok=(decide (E=0)&&sr):=⟨_,rfl⟩);rw[←bJ];have BA:=Lib.hid bJ
   clear bJ
 | have qq2z:=qq2z
   generalize zP [] a.s 2=M at*;generalize zE a.s.length 2=E at*
   skip
   have rS:=Lib.hid ca;clear ca;(obtain⟨ok,bJ⟩:∃ok,ok=(decide (E=0)&&sr):=⟨_,rfl⟩);rw[←bJ];have BA:=Lib.hid bJ
   clear bJ
 | have qq2y:=qq2y
   generalize zP [] a.s 1=M at*;generalize zE a.s.length 1=E at*
   skip
   have rS:=Lib.hid ca;clear ca;(obtain⟨ok,bJ⟩:∃ok,ok=(decide (E=0)&&sr):=⟨_,rfl⟩);rw[←bJ];have BA:=Lib.hid bJ
   clear bJ
 | generalize vlP a.v=M at*
   generalize errV a.v=E at*;unfold vlV at ca;have rS:=Lib.hid ca;clear ca;(obtain⟨ok,bJ⟩:∃ok,ok=(decide (E=0)&&sr):=⟨_,rfl⟩);rw[←bJ];have BA:=Lib.hid bJ;clear bJ
 obtain⟨ab,rb,v0,dZ,eB,bh,bo,bV,Hr⟩:=qS w #[.bool a.is,.int .u64 (a.n:Int),.string (str a.s),.int .u32 (a.x.fmt:Int),.string (str a.x.glob),.string (str a.x.bran),.slice h.A a.q.length h.c,.int .u8 (a.v.kind:Int),.int .u64 (a.v.n:Int),.string (str a.v.s),.slice h.h.A1 a.v.keys.length h.h.c1,.slice h.h.A2 a.v.list.length h.h.c2] #[.bool true,.int .u64 0,.string ⟨#[]⟩,.int .u32 0,.string ⟨#[]⟩,.string ⟨#[]⟩,.slice none 0 0,.int .u8 0,.int .u64 0,.string ⟨#[]⟩,.slice none 0 0,.slice none 0 0] 80;have Br:w.heap.size≤ab:=by omega
 have ui:ab<rb:=by omega
 have Bc:∀g,blk A=some g→g<ab:=fun g hg=>by have:=(Hl.blk_lt hg).2;omega
 have eY:∀g,blk A=some g→base≤g:=fun g hg=>(Hl.blk_lt hg).1
 have H4:=zi Hl Hr;have HU:Below w.heap.size w v0:=Hr;have cg:=bV.lt;have fo:=cg;have cX:l.length=n:=RdB.length Hl.rd;unfold agV;have HA:=Lib.hid ha;clear ha;go_enter func71,ntmps71;go_upto_region 2 with fail;rw[←eB,←dZ,←bh];clear dZ eB bh Hl Hr
 first
 | have qq32:=qq32
   have Ht:=bo;have dH:=bV;have BK:=H4;have Ha:=HU;have cY:OwnB v0 v0.heap.size none 0 0 []:=Own.none_ _ _ _ _
   clear bo bV H4 HU
 | have ca:=rS.out v0 HU
   have x0:=bo.c0;have x1:=bo.c1;have x2:=bo.c2;have x3:=bo.c3;have x4:=bo.c4;have x5:=bo.c5;have x6:=bo.c6;have x7:=bo.c7;have x8:=bo.c8;have x9:=bo.c9;have xA:=bo.c10;have xB:=bo.c11;go_wp2_with(with_reducible refine h_B ?_);refine ca.mono ?_;rintro e w1 ⟨A1,c1,rfl,cY,BB⟩;have Ht:=bo.below BB;have dH:=bV.below BB;have BK:=zi H4 BB;have Ha:=HU.trans (BB.mono HU.size);have fo:rb<v0.heap.size:=cg;clear bo bV H4 HU BB ca rS;clear x0 x1 x2 x3 x4 x5 x6 x7 x8 x9 xA xB
 have x0:=Ht.c0;have x1:=Ht.c1;have x2:=Ht.c2;have x3:=Ht.c3;have x4:=Ht.c4;have x5:=Ht.c5;have x6:=Ht.c6;have x7:=Ht.c7;have x8:=Ht.c8;have x9:=Ht.c9;have xA:=Ht.c10;have xB:=Ht.c11;go_wp2_with(with_reducible refine h_B ?_)
 first
 | have qq32:=qq32
   refine zc (zm (v:=.bool a.is) (vs:=[.bool a.is]) rfl rfl rfl rfl dH rfl Wj Wz UZ #[.bool a.is,.int .u64 0,.string ⟨#[]⟩,.int .u32 0,.string ⟨#[]⟩,.string ⟨#[]⟩,.slice none 0 0,.int .u8 0,.int .u64 0,.string ⟨#[]⟩,.slice none 0 0,.slice none 0 0] Wz ?_)
 | have qq31:=qq31
   refine zc (zm (v:=.agg #[.int .u32 (a.x.fmt:Int),.string (str a.x.glob),.string (str a.x.bran)]) (vs:=[.int .u32 (a.x.fmt:Int),.string (str a.x.glob),.string (str a.x.bran)]) rfl rfl rfl rfl dH rfl Wj Wz mj #[.bool true,.int .u64 0,.string ⟨#[]⟩,.int .u32 (a.x.fmt:Int),.string (str a.x.glob),.string (str a.x.bran),.slice none 0 0,.int .u8 0,.int .u64 0,.string ⟨#[]⟩,.slice none 0 0,.slice none 0 0] Wz ?_)
 | have qq30:=qq30
   refine zc (zm (v:=.slice h.A a.q.length h.c) (vs:=[.slice h.A a.q.length h.c]) rfl rfl rfl rfl dH rfl Wj Wz UZ #[.bool true,.int .u64 0,.string ⟨#[]⟩,.int .u32 0,.string ⟨#[]⟩,.string ⟨#[]⟩,.slice h.A a.q.length h.c,.int .u8 0,.int .u64 0,.string ⟨#[]⟩,.slice none 0 0,.slice none 0 0] Wz ?_)
 | have qq2z:=qq2z
   refine zc (zm (v:=.string (str a.s)) (vs:=[.string (str a.s)]) rfl rfl rfl rfl dH rfl Wj Wz UZ #[.bool true,.int .u64 0,.string (str a.s),.int .u32 0,.string ⟨#[]⟩,.string ⟨#[]⟩,.slice none 0 0,.int .u8 0,.int .u64 0,.string ⟨#[]⟩,.slice none 0 0,.slice none 0 0] Wz ?_)
 | have qq2y:=qq2y
   refine zc (zm (v:=.string (str a.s)) (vs:=[.string (str a.s)]) rfl rfl rfl rfl dH rfl Wj Wz UZ #[.bool true,.int .u64 0,.string (str a.s),.int .u32 0,.string ⟨#[]⟩,.string ⟨#[]⟩,.slice none 0 0,.int .u8 0,.int .u64 0,.string ⟨#[]⟩,.slice none 0 0,.slice none 0 0] Wz ?_)
 | refine zc (zm (v:=.agg #[.int .u8 (a.v.kind:Int),.int .u64 (a.v.n:Int),.string (str a.v.s),.slice h.h.A1 a.v.keys.length h.h.c1,.slice h.h.A2 a.v.list.length h.h.c2]) (vs:=[.int .u8 (a.v.kind:Int),.int .u64 (a.v.n:Int),.string (str a.v.s),.slice h.h.A1 a.v.keys.length h.h.c1,.slice h.h.A2 a.v.list.length h.h.c2]) rfl rfl rfl rfl dH rfl Wj Wz WQ #[.bool true,.int .u64 0,.string ⟨#[]⟩,.int .u32 0,.string ⟨#[]⟩,.string ⟨#[]⟩,.slice none 0 0,.int .u8 (a.v.kind:Int),.int .u64 (a.v.n:Int),.string (str a.v.s),.slice h.h.A1 a.v.keys.length h.h.c1,.slice h.h.A2 a.v.list.length h.h.c2] Wz ?_)
 intro w2 Hu Hm _;have Hv:=Ht.grown Hm (sne Wq);have Bl:=zk BK Hm uz;have bW:=zk cY Hm (fun g hg e=>by injection e with e;have:=(cY.blk_lt hg).1;omega);have Hc:=Ha.grown Hm Ha.size Wx;have cj:=Nat.le_trans Hf Hc.size;clear Ht dH BK cY Hm Ha;clear x0 x1 x2 x3 x4 x5 x6 x7 x8 x9 xA xB;have x0:=Hv.c0;have x1:=Hv.c1;have x2:=Hv.c2;have x3:=Hv.c3;have x4:=Hv.c4;have x5:=Hv.c5;have x6:=Hv.c6;have x7:=Hv.c7;have x8:=Hv.c8;have x9:=Hv.c9;have xA:=Hv.c10;have xB:=Hv.c11;have y0:=Hu.c0;have y1:=Hu.c1;have y2:=Hu.c2;have y3:=Hu.c3;have y4:=Hu.c4;have y5:=Hu.c5;have y6:=Hu.c6;have y7:=Hu.c7;have y8:=Hu.c8;have y9:=Hu.c9;have yA:=Hu.c10;have yB:=Hu.c11;go_wp2_with(with_reducible refine h_B ?_);refine zc (yc slB rfl rfl rfl rfl Bl bW.rd (zM _) Wq Hj cj ?_);intro A3 c3 w3 Bx H7 bX;have Hy:=Hv.grown H7 Nj;have Hw:=Hu.grown H7 Nj;have Hh:=(Hc.mono Hf).grown H7 cj (fun g hg=>eY g hg);have BO:KB w w3 (blk A):=⟨Nat.le_trans Hc.size H7.size,fun g hg hne=>(H7.block g (Nat.lt_of_lt_of_le hg Hc.size) (fun e=>hne e.symm)).trans (Hc.block g hg)⟩;clear x0 x1 x2 x3 x4 x5 x6 x7 x8 x9 xA xB;clear y0 y1 y2 y3 y4 y5 y6 y7 y8 y9 yA yB;clear Hv Hu Bl bW H7 Hc bX;have x0:=Hy.c0;have x1:=Hy.c1;have x2:=Hy.c2;have x3:=Hy.c3;have x4:=Hy.c4;have x5:=Hy.c5;have x6:=Hy.c6;have x7:=Hy.c7;have x8:=Hy.c8;have x9:=Hy.c9;have xA:=Hy.c10;have xB:=Hy.c11;have y0:=Hw.c0;have y1:=Hw.c1;have y2:=Hw.c2;have y3:=Hw.c3;have y4:=Hw.c4;have y5:=Hw.c5;have y6:=Hw.c6;have y7:=Hw.c7;have y8:=Hw.c8;have y9:=Hw.c9;have yA:=Hw.c10;have yB:=Hw.c11
 first
 | have qq32:=qq32
   have cZ:=mT.out w3 Hh;go_wp2_with(with_reducible refine h_B ?_);refine cZ.mono ?_;rintro e w4 ⟨rfl,Hn⟩;have Bv:=zi Bx Hn;have bz:=Hh.trans (Hn.mono (Nat.le_trans Hf Hh.size));have Bt:KB w w4 (blk A):=⟨Nat.le_trans BO.1 Hn.size,fun g hg hne=>(Hn.block g (Nat.lt_of_lt_of_le hg BO.1)).trans (BO.2 g hg hne)⟩;clear Hy Hw Bx Hh Hn BO cZ;clear x0 x1 x2 x3 x4 x5 x6 x7 x8 x9 xA xB;clear y0 y1 y2 y3 y4 y5 y6 y7 y8 y9 yA yB;go_wp2_with(with_reducible refine h_A ?_);go_ret2
   exact⟨A3,_,c3,rfl,bz,Bt,fun _=>⟨by simp[cX],(by have:=Bv;rw[←List.map_append]at this;exact this)⟩⟩
 | by_cases hE:E=0
   ·(obtain rfl:ok=sr:=by rw[BA.out];simp[hE]);(have ge:(E==0)=true:=by simp[hE]);clear hE;exact Z4k_
   ·(obtain rfl:ok=false:=by rw[BA.out];simp[hE]);(have ge:(E==0)=false:=by simp[hE]);clear hE;go_wp2_with(with_reducible refine h_B ?_);go_ret2
    exact⟨A3,_,c3,rfl,Hh,BO,fun e=>absurd e Wz⟩):p:=h
theorem Zg_(h:p:=by
 first
 | have qq34:=qq34
   have B2:Hid (res=(vl0,0,5)):=Lib.hid (by rw[mB.out];unfold vget;rw[←ng.out])
 | have qq33:=qq33
   have B2:Hid (res=(vl0,0,5)):=Lib.hid (by rw[NO.out,if_neg he]);generalize errV x=E at*;(have g1:(E==0)=false:=by simpa using he);clear NO mB ng he;go_wp2_with(with_reducible refine h_A ?_);refine Ba.mono ?_;rintro e w8 ⟨rfl,Be⟩;have BR:=BJ.below Be;have dl:=fg.below Be;have C4:=wv.below Be;have od:=EP.below Be;have nI:=Ay.below Be;have iA:=fK.trans (Be.mono fK.size);clear Ba BJ fg wv EP Ay MF fK x0 x1 x2 x3 x4 R2
   have gY:=xR BR dl false (.inl rfl)
 | have B2:Hid (res=(x,l.length-lq.length,0)):=Lib.hid (by rw[NO.out,if_pos he])
   rw[he]at Ba;clear NO mB ng he;go_wp2_with(with_reducible refine h_A ?_);refine Ba.mono ?_;rintro e w8 ⟨rfl,Be⟩;have BR:=BJ.below Be;have dl:=fg.below Be;have C4:=wv.below Be;have od:=EP.below Be;have nI:=Ay.below Be;have N3:RV w8 (FN w5.heap.size w8) x h:=(MF.keep (fun g hg=>Be.block g hg.2) Be.size).mono (fun g hg=>⟨hg.1,Nat.lt_of_lt_of_le hg.2 Be.size⟩);have iA:=fK.trans (Be.mono fK.size);have GI:=Be.size;clear Ba BJ fg wv EP Ay MF fK x0 x1 x2 x3 x4 R2;have gY:=xK BR dl
 go_wp2_with(with_reducible refine h_A ?_)
 first
 | have qq34:=qq34
   refine rJ.mono ?_;rintro e w6 ⟨rfl,hK⟩;have LK:=hK.box Nm Wq Wq;have wL:=hK.box pI Wq Wq;have mo:=hK.box dv Wq Wq
   have dC:=H6.trans (hK.1.mono Wq)
 | have qq33:=qq33
   refine gY.mono ?_;rintro e w9 ⟨rfl,rfl⟩
   clear gY
 | refine gY.mono ?_
   rintro e w9 ⟨rfl,rfl⟩;clear gY;go_upto_region 5 with fail;refine zt (fun W:World=>Box W p 78 #[.int .u8 (x.kind:Int),.int .u64 (x.n:Int),.string (str x.s),.slice h.A1 x.keys.length h.c1,.slice h.A2 x.list.length h.c2]∧Box W pb 255 #[.pointer (some ⟨ob,0,none⟩),.int .i64 (nq:Int)]) Wj ?_;have hS:Box w9.drew p 78 #[.int .u8 (x.kind:Int),.int .u64 (x.n:Int),.string (str x.s),.slice h.A1 x.keys.length h.c1,.slice h.A2 x.list.length h.c2]∧Box w9.drew pb 255 #[.pointer (some ⟨ob,0,none⟩),.int .i64 (nq:Int)]:=⟨C4,dl⟩;have lG:=BR.drew;replace od:Box w9.drew q 3 #[.int .i64 0]:=od;replace nI:Box w9.drew r 45 #[.int .i64 0]:=nI;replace N3:RV w9.drew (FN w5.heap.size w9.drew) x h:=N3.keep (fun g hg=>rfl) (Nat.le_refl _);replace iA:=za iA 1;replace GI:w7.heap.size≤w9.drew.heap.size:=GI;clear C4 dl BR Be;have iA:Below w.heap.size w w9.drew:=iA;generalize w9.drew=wd at*;refine ze 0 (v:=?_) rfl Wj Wj Wj hS rfl ?_ ?_;rotate_left
   ·exact Z4a_
   simp only[List.getElem_toArray,List.getElem_cons_zero,Act.put,List.setIfInBounds_toArray,List.set_cons_zero,List.set_cons_succ];refine rg_t 1 hS ?_;simp only[g_S];refine rg_t 2 hS ?_;simp only[g_S];refine rg_t 3 hS ?_;simp only[g_S];refine rg_t 4 hS ?_;simp only[g_S];refine rg_t 5 hS ?_;simp only[g_S];refine ze 6 (v:=?_) rfl Wj Wj Wj hS rfl ?_ ?_;rotate_left
   ·intro wS He;have y0:=He.2.cell (j:=0) rfl;go_simp;(with_reducible rfl)
   simp only[g_S];refine zj 7 rfl Wj rfl (fun K hK=>?_);go_simp;refine(yN lG).mono ?_;rintro e wd2 ⟨rfl,rfl⟩;refine hK _ _ hS ?_;clear hK K;(try simp only[g_S]);refine rg_t 8 hS ?_;simp only[g_S];refine zj 9 rfl Wj rfl (fun K hK=>?_);refine zK (g:=p) (j:=0) (v:=.agg #[.int .u8 (x.kind:Int),.int .u64 (x.n:Int),.string (str x.s),.slice h.A1 x.keys.length h.c1,.slice h.A2 x.list.length h.c2]) (vs:=[.int .u8 (x.kind:Int),.int .u64 (x.n:Int),.string (str x.s),.slice h.A1 x.keys.length h.c1,.slice h.A2 x.list.length h.c2]) rfl rfl rfl hS.1 rfl Wj Wz WQ #[.int .u8 (x.kind:Int),.int .u64 (x.n:Int),.string (str x.s),.slice h.A1 x.keys.length h.c1,.slice h.A2 x.list.length h.c2] Wz ?_;intro wa hpa cL _;have UL:Box wa p 78 #[.int .u8 (x.kind:Int),.int .u64 (x.n:Int),.string (str x.s),.slice h.A1 x.keys.length h.c1,.slice h.A2 x.list.length h.c2]∧Box wa pb 255 #[.pointer (some ⟨ob,0,none⟩),.int .i64 (nq:Int)]:=⟨hpa,hS.2.grown cL (sne Wq)⟩;have dZ:=od.grown cL (sne Wq);have eF:=nI.grown cL (sne Wq);have hBa:=iA.grown cL (by have:=iA.size;omega) Wx;have Up:RV wa (FN w5.heap.size wa) x h:=(N3.keep (fun g hg=>cL.block g hg.2 Hz) cL.size).mono (fun g hg=>⟨hg.1,Nat.lt_of_lt_of_le hg.2 cL.size⟩);clear hS od nI iA N3 cL hpa lG;have hS:=UL;clear UL;refine hK _ _ hS ?_;clear hK K;refine zj 10 rfl Wj rfl (fun K hK=>?_);refine zK (g:=q) (j:=0) (v:=.int .i64 (IntKind.i64.wrap ((n:Int)-(lq.length:Int)))) (vs:=[.int .i64 (IntKind.i64.wrap ((n:Int)-(lq.length:Int)))]) rfl rfl rfl dZ rfl Wj Wz wX #[.int .i64 (IntKind.i64.wrap ((n:Int)-(lq.length:Int)))] Wz ?_;intro wb bC pw _;have NG:Box wb p 78 #[.int .u8 (x.kind:Int),.int .u64 (x.n:Int),.string (str x.s),.slice h.A1 x.keys.length h.c1,.slice h.A2 x.list.length h.c2]∧Box wb pb 255 #[.pointer (some ⟨ob,0,none⟩),.int .i64 (nq:Int)]:=⟨hS.1.grown pw (sne Wq),hS.2.grown pw (sne Wq)⟩;have da:=eF.grown pw (sne Wq);have l7:=hBa.grown pw (by have:=hBa.size;omega) Wx;have TZ:RV wb (FN w5.heap.size wb) x h:=(Up.keep (fun g hg=>pw.block g hg.2 Hz) pw.size).mono (fun g hg=>⟨hg.1,Nat.lt_of_lt_of_le hg.2 pw.size⟩);clear hS dZ eF hBa Up pw;refine hK _ _ NG ?_;clear hK K;refine zj 11 rfl Wj rfl (fun K hK=>?_);refine zK (g:=r) (j:=0) (v:=.int .i64 0) (vs:=[.int .i64 0]) rfl rfl rfl da rfl Wj Wz wX #[.int .i64 0] Wz ?_;intro wc Iy DH _;have nw:=NG.1.grown DH (sne Wq);have hPc:=NG.2.grown DH (sne Wq);have ow:=bC.grown DH (sne Wq);have hBc:=l7.grown DH (by have:=l7.size;omega) Wx;have Wt:RV wc (FN w5.heap.size wc) x h:=(TZ.keep (fun g hg=>DH.block g hg.2 Hz) DH.size).mono (fun g hg=>⟨hg.1,Nat.lt_of_lt_of_le hg.2 DH.size⟩);refine hK _ _ ⟨nw,hPc⟩ ?_;clear hK K NG da l7 TZ DH bC;refine zD Wj ?_
 go_wp2_with(with_reducible refine h_A ?_)
 first
 | done
 | have qq34:=qq34
 | have qq33:=qq33
 | have pZ:IntKind.i64.wrap ((n:Int)-(lq.length:Int))=((l.length-lq.length:Nat):Int):=by rw[IntWalk.i64_in _ ⟨by omega,by omega⟩];omega
   rw[pZ]at ow
 refine leaves_cons (f:=getD) (args:=#[.pointer (some ⟨p,0,none⟩),.pointer (some ⟨q,0,none⟩),.pointer (some ⟨r,0,none⟩)]) Wz (by simp[go_sem]) ?_
 first
 | have qq34:=qq34
   refine(Yu p q r [] _ _ _ _ LK rfl wL mo Wq Wq Wq w.heap.size Wq Wq Wq).mono ?_;rintro e u' w'' ⟨rfl,rfl,nw,ow,Iy,Bh⟩
   have EN:=(dC).trans Bh
 | have qq33:=qq33
   refine(Yu p q r [] _ _ _ _ C4 rfl od nI Wq Wq Wq w.heap.size Wq Wq Wq).mono ?_;rintro e u' w'' ⟨rfl,rfl,nw,ow,Iy,Bh⟩
   have EN:=(iA).trans Bh
 | refine(zbr ⟨p,0,none⟩ ⟨q,0,none⟩ ⟨r,0,none⟩ _).mono ?_
   (rintro e u' w'' ⟨rfl,rfl,rfl⟩)
 have k1:=ow.c0;have k2:=Iy.c0;have C5:=nw.c0;have DO:=nw.c1;have DD:=nw.c2;have C3:=nw.c3;have CQ:=nw.c4;simp only[List.getElem_toArray,List.getElem_cons_zero,List.getElem_cons_succ]at k1 k2 C5 DO DD C3 CQ;simp[Leaves,settle,results,Tryz.results162,go_sem,C5,DO,DD,C3,CQ,k1,k2];rw[B2.out]
 first|(have qq34:=qq34;exact⟨⟨none,0,none,0⟩,rfl,RV.zero _ _,EN⟩)|(have qq33:=qq33;exact⟨⟨none,0,none,0⟩,rfl,RV.zero _ _,EN⟩)|(exact⟨h,rfl,Wt.mono (fun g hg=>⟨by have:=hg.1;omega,hg.2⟩),hBc⟩)):p:=h
theorem Z4i_(h:p:=by
 refine zK (g:=lb) (j:=5) (v:=.string (str (L.sent++cb))) (vs:=[.string (str (L.sent++cb))]) rfl rfl rfl h0.box rfl Wj Wz WZ #[.int .i64 (L.st:Int),.string (str b),.pointer (some ⟨gb,0,none⟩),.int .u64 (L.ch:Int),.int .u64 (L.sz:Int),.string (str (L.sent++cb)),.slice TT L.told.length tc] Wz ?_;intro w9 gu du iK;refine hK _ _ (fun h=>absurd rfl h) ?_;clear hK K iK;try simp only[g_S]
 refine kN Wj ?_;go_wp2_with(with_reducible refine h_A ?_);go_meet
 case rel=>exact⟨h0.put (L':={L with sent:=L.sent++cb}) du rfl rfl gu,(KeepF.below hB).trans (.grown (F:=U) du (fun g e=>.inl Ux)) (fun _ h=>.inl h)⟩):p:=h
theorem Zh_(h:p:=by
 first
 | have qq38:=qq38
   have HR:=Lib.hid (wU.out.trans (if_pos q1));(have d1:((m.code:Int)==11)=true:=by simp;omega);clear q1;(have fh:∀(W:World),RlX W B U T lb gb l b L TT tc th F→Calls prog 29 #[.pointer (some ⟨lb,0,none⟩),.int .u8 12,.slice none 0 0] W fun e w'=>e= .returned (.string (str (ctlB L.sz Zt)))∧Below W.heap.size W w':=fun W hx=>j3 12 [] _ zcZ WJ lb L.sz none 0 0 W (Rd.nil _ _ _ _ WX _) (hx.box.cell (j:=4) rfl) Bm);have bD:(ctlB L.sz Zt).length≤10000:=Nat.le_trans (jl _ _) WJ
   obtain⟨cb,Bs⟩:∃cb,cb=ctlB L.sz Zt:=⟨_,rfl⟩
 | have qq36:=qq36
   have HR:=Lib.hid (UU.out.trans (show L.opened s={L.send Zs with st:=4} by unfold LS.opened;rw[if_neg (of_decide_eq_false HY.out.symm)]));clear z1;(have fh:∀(W:World),RlX W B U T lb gb l b L TT tc th F→Calls prog 29 #[.pointer (some ⟨lb,0,none⟩),.int .u8 8,.slice none 0 0] W fun e w'=>e= .returned (.string (str (ctlB L.sz Zs)))∧Below W.heap.size W w':=fun W hx=>j3 8 [] _ zdF WJ lb L.sz none 0 0 W (Rd.nil _ _ _ _ WX _) (hx.box.cell (j:=4) rfl) Bm);have bD:(ctlB L.sz Zs).length≤10000:=Nat.le_trans (jl _ _) WJ
   obtain⟨cb,Bs⟩:∃cb,cb=ctlB L.sz Zs:=⟨_,rfl⟩
 | obtain⟨TT,tc,th,F,hX⟩:=h
   (have dD:∀W,Calls prog 30 #[.int .u64 (code:Int),.string ⟨#[]⟩] W fun e w'=>e= .returned (.agg #[.bool true,.int .u64 (code:Int),.string (⟨#[]⟩),.int .u32 0,.string ⟨#[]⟩,.string ⟨#[]⟩,.slice none 0 0,.int .u8 0,.int .u64 0,.string ⟨#[]⟩,.slice none 0 0,.slice none 0 0])∧Below W.heap.size W w':=fun W=>jr code [] W);(have db:∀W,Calls prog 30 #[.int .u64 0,.string (str text)] W fun e w'=>e= .returned (.agg #[.bool true,.int .u64 (0),.string (str text),.int .u32 0,.string ⟨#[]⟩,.string ⟨#[]⟩,.slice none 0 0,.int .u8 0,.int .u64 0,.string ⟨#[]⟩,.slice none 0 0,.slice none 0 0])∧Below W.heap.size W w':=fun W=>jr 0 text W);(have fh:∀(W:World) (A:Option Addr),Rd W W.heap.size 12 A 2 2 (rowC saC [⟨true,code,[]⟩,⟨true,0,text⟩])→RlX W B U T lb gb l b L TT tc th F→Calls prog 29 #[.pointer (some ⟨lb,0,none⟩),.int .u8 11,.slice A 2 2] W fun e w'=>e= .returned (.string (str (ctlB L.sz (xV code text))))∧Below W.heap.size W w':=fun W A hr hx=>j3 11 _ _ (zc0 code text gX lI) (by simp[xV,zr];omega) lb L.sz A 2 2 W hr (hx.box.cell (j:=4) rfl) Bm);have bD:(ctlB L.sz (xV code text)).length≤10000:=Nat.le_trans (jl _ _) (by simp[xV,zr];omega);obtain⟨cb,Bs⟩:∃cb,cb=ctlB L.sz (xV code text):=⟨_,rfl⟩
 rw[←Bs]at fh bD;have ro:=Lib.hid Bs;clear Bs;have BW:=zh L.sent;have cj:=zh cb;have o4:(9223372036854775807<L.sent.length+cb.length)=False:=by simp;omega
 first
 | have qq38:=qq38
   go_upto_region 20 with fail
   go_cut []from 157 (fun wx=>RlX wx B U T lb gb l b {L with sent:=L.sent++cb} TT tc th F∧KeepF U w wx)
 | have qq36:=qq36
   go_upto_region 17 with fail
   go_cut []from 140 (fun wx=>RlX wx B U T lb gb l b {L with sent:=L.sent++cb} TT tc th F∧KeepF U w wx)
 | go_enter func34,ntmps34
   go_upto_region 0 with fail;go_cut []from 6 (fun wx=>RlX wx B U T lb gb l b {L with sent:=L.sent++cb} TT tc th F∧KeepF U w wx)
 case first=>
  first
  | have qq38:=qq38
    clear y0 y1 y3 c0
    have B9:Below (wm).heap.size wm (wm).drew:=za (Below.refl _ wm) 1
  | have qq36:=qq36
    clear y0 y1 y3 c0
    have B9:Below (wm).heap.size wm (wm).drew:=za (Below.refl _ wm) 1
  | have h0:=hX
    have hB:=Below.refl w.heap.size w;clear hX;have B9:Below (w).heap.size w (w).drew:=za (Below.refl _ w) 1
  replace h0:=h0.below B9;replace hB:=hB.trans (B9.mono hB.size);clear B9;first|(have qq38:=qq38;refine jd 10 (fun W:World=>W.cell? ⟨lb,5,none⟩=some (.string (str L.sent))) Wj ?_)|(have qq36:=qq36;refine jd 10 (fun W:World=>W.cell? ⟨lb,5,none⟩=some (.string (str L.sent))) Wj ?_)|(refine jd 15 (fun W:World=>W.cell? ⟨lb,5,none⟩=some (.string (str L.sent))) Wj ?_)
  have hS:=h0.box.c5;simp only[List.getElem_toArray,List.getElem_cons_succ,List.getElem_cons_zero]at hS;first|(have qq38:=qq38;generalize(wm).drew=wd at*)|(have qq36:=qq36;generalize(wm).drew=wd at*)|(generalize(w).drew=wd at*)
  refine yi 0 hS ?_;try simp only[g_S]
  refine yi 1 hS ?_;try simp only[g_S]
  refine yi 2 hS ?_;try simp only[g_S]
  refine yi 3 hS ?_;try simp only[g_S]
  refine yi 4 hS ?_;try simp only[g_S]
  refine yi 5 hS ?_
  first
  | done
  | have qq38:=qq38
  | have qq36:=qq36
  | try simp only[g_S]
    refine yi 6 hS ?_;(try simp only[g_S]);refine yi 8 hS ?_;(try simp only[g_S]);refine yH 7 rfl Wj rfl (fun K hK=>?_);go_simp
    (with_reducible refine(dD _).mono ?_)
    rintro e w1 ⟨rfl,Ha⟩;replace hS:=(Ha.cell (p:=⟨lb,5,none⟩) h0.box.lt).trans hS;refine hK _ _ (fun _=>hS) ?_;clear hK K;replace h0:=h0.below Ha;replace hB:=hB.trans (Ha.mono hB.size);clear Ha;(try simp only[g_S]);refine yH 9 rfl Wj rfl (fun K hK=>?_);go_simp
    (with_reducible refine(db _).mono ?_)
    rintro e w2 ⟨rfl,Ha⟩;replace hS:=(Ha.cell (p:=⟨lb,5,none⟩) h0.box.lt).trans hS;refine hK _ _ (fun _=>hS) ?_;clear hK K;replace h0:=h0.below Ha;replace hB:=hB.trans (Ha.mono hB.size);clear Ha;(try simp only[g_S]);refine yH 10 rfl Wj rfl (fun K hK=>?_);obtain⟨ab,w3,bC,bh,hG,Ha⟩:=zo w2 #[.bool true,.int .u64 (code:Int),.string (⟨#[]⟩),.int .u32 0,.string ⟨#[]⟩,.string ⟨#[]⟩,.slice none 0 0,.int .u8 0,.int .u64 0,.string ⟨#[]⟩,.slice none 0 0,.slice none 0 0,.bool true,.int .u64 (0),.string (str text),.int .u32 0,.string ⟨#[]⟩,.string ⟨#[]⟩,.slice none 0 0,.int .u8 0,.int .u64 0,.string ⟨#[]⟩,.slice none 0 0,.slice none 0 0] 80;have b7:=yq (w:=w2) (w2).heap.size #[.bool true,.int .u64 (code:Int),.string (⟨#[]⟩),.int .u32 0,.string ⟨#[]⟩,.string ⟨#[]⟩,.slice none 0 0,.int .u8 0,.int .u64 0,.string ⟨#[]⟩,.slice none 0 0,.slice none 0 0,.bool true,.int .u64 (0),.string (str text),.int .u32 0,.string ⟨#[]⟩,.string ⟨#[]⟩,.slice none 0 0,.int .u8 0,.int .u64 0,.string ⟨#[]⟩,.slice none 0 0,.slice none 0 0] 80 2 (Nat.le_refl _) WX (size:=12) rfl Wq;rw[←bh,←bC]at b7;have eF:Rd w3 w3.heap.size 12 (some ⟨ab,0,none⟩) 2 2 (rowC saC [⟨true,code,[]⟩,⟨true,0,text⟩]):=b7.rd;refine Y3 (QQ rfl rfl rfl) ?_;rw[←bh,←bC];replace hS:=(Ha.cell (p:=⟨lb,5,none⟩) h0.box.lt).trans hS;refine hK _ _ (fun _=>hS) ?_;clear hK K b7 bh bC hG;replace h0:=h0.below Ha;replace hB:=hB.trans (Ha.mono hB.size);clear Ha
  try simp only[g_S]
  first
  | have qq38:=qq38
    refine yH 6 rfl Wj rfl (fun K hK=>?_)
    have fz:=fh _ h0
  | have qq36:=qq36
    refine yH 6 rfl Wj rfl (fun K hK=>?_)
    have fz:=fh _ h0
  | refine yH 11 rfl Wj rfl (fun K hK=>?_)
    have fz:=fh w3 _ eF h0
  go_simp
  (with_reducible refine(fz).mono ?_)
  rintro e w4 ⟨rfl,Ha⟩;replace hS:=(Ha.cell (p:=⟨lb,5,none⟩) h0.box.lt).trans hS;refine hK _ _ (fun _=>hS) ?_;clear hK K;replace h0:=h0.below Ha;replace hB:=hB.trans (Ha.mono hB.size);clear Ha;try simp only[g_S]
  clear fz;first|(have qq38:=qq38;refine yi 7 hS ?_)|(have qq36:=qq36;refine yi 7 hS ?_)|(refine yi 12 hS ?_)
  try simp only[g_S]
  simp only[jn];first|(have qq38:=qq38;refine yi 8 hS ?_)|(have qq36:=qq36;refine yi 8 hS ?_)|(refine yi 13 hS ?_)
  try simp only[g_S]
  first|(have qq38:=qq38;refine yi 9 hS ?_)|(have qq36:=qq36;refine yi 9 hS ?_)|(refine yi 14 hS ?_)
  try simp only[g_S]
  first|(have qq38:=qq38;refine yH 10 rfl Wj rfl (fun K hK=>?_))|(have qq36:=qq36;refine yH 10 rfl Wj rfl (fun K hK=>?_))|(refine yH 15 rfl Wj rfl (fun K hK=>?_))
  exact Z4i_
 first
 | have qq38:=qq38
   obtain⟨h1,dw⟩:=hcut
   clear h0
 | have qq36:=qq36
   obtain⟨h1,dw⟩:=hcut
   clear h0
 | obtain⟨h0,dy⟩:=hcut
   clear hX dD db fh
 go_wp2_with(with_reducible refine h_B ?_)
 first
 | have qq38:=qq38
   refine zc (zm (v:=.int .i64 5) (vs:=[.int .i64 5]) rfl rfl rfl rfl h1.box rfl Wj Wz WZ #[.int .i64 (5),.string (str b),.pointer (some ⟨gb,0,none⟩),.int .u64 (L.ch:Int),.int .u64 (L.sz:Int),.string (str (L.sent++cb)),.slice TT L.told.length tc] Wz ?_)
 | have qq36:=qq36
   refine zc (zm (v:=.int .i64 4) (vs:=[.int .i64 4]) rfl rfl rfl rfl h1.box rfl Wj Wz WZ #[.int .i64 (4),.string (str b),.pointer (some ⟨gb,0,none⟩),.int .u64 (L.ch:Int),.int .u64 (L.sz:Int),.string (str (L.sent++cb)),.slice TT L.told.length tc] Wz ?_)
 | refine zc (zm (v:=.int .i64 5) (vs:=[.int .i64 5]) rfl rfl rfl rfl h0.box rfl Wj Wz WZ #[.int .i64 5,.string (str b),.pointer (some ⟨gb,0,none⟩),.int .u64 (L.ch:Int),.int .u64 (L.sz:Int),.string (str (L.sent++cb)),.slice TT L.told.length tc] Wz ?_)
 intro w6 cJ bm ej;clear ej
 first
 | have qq38:=qq38
   have h2:=h1.put (L':={L with sent:=L.sent++cb,st:=5}) bm rfl rfl cJ;have Bk:=dw.trans (.grown (F:=U) bm (fun g e=>.inl UX)) (fun _ h=>.inl h);rw[ro.out]at h2
   clear h1 dw
 | have qq36:=qq36
   have h2:=h1.put (L':={L with sent:=L.sent++cb,st:=4}) bm rfl rfl cJ;have Bk:=dw.trans (.grown (F:=U) bm (fun g e=>.inl UX)) (fun _ h=>.inl h);rw[ro.out]at h2
   clear h1 dw
 | have h1:=h0.put (L':={L with sent:=L.sent++cb,st:=5}) bm rfl rfl cJ
   have dw:=dy.trans (.grown (F:=U) bm (fun g e=>.inl Ux)) (fun _ h=>.inl h);rw[ro.out]at h1
 go_wp2_with(with_reducible refine h_B ?_);go_end0
 first|(have qq38:=qq38;exact⟨rfl,by rw[HR.out];exact RStep.mk h2 Bk⟩)|(have qq36:=qq36;exact⟨rfl,by rw[HR.out];exact RStep.mk h2 Bk⟩)|(exact⟨rfl,RStep.mk h1 dw⟩)):p:=h
theorem Zi_(h:p:=by
 subst hk
 first
 | have qq3c:=qq3c
   generalize dq:(((169:Nat):Int))=k at*
   obtain rfl:k=169:=by rw[←dq];rfl
 | generalize dq:(((168:Nat):Int))=k at*
   obtain rfl:k=168:=by rw[←dq];rfl
 clear dq;have c0:=bU.c0;have c1:=bU.c1;have c2:=bU.c2;have c3:=bU.c3;have c4:=bU.c4;first|(have qq3c:=qq3c;rw[show yu 169 v.n v.s INN=be 4 INN.length++INN by simp[yu]]at eZ)|(rw[show yu 168 v.n v.s INN=be 4 INN.length++INN by simp[yu]]at eZ)
 have Ey:INN.length≤100000000:=by have:=lP;rw[eZ.out]at this;simp at this;omega
 have BF:=fun{i:Nat} (hi:i<v.list.length)=>(Gn.mono (fun g hg=>Nat.lt_of_lt_of_le hg ee)).elem hi
 first
 | have qq3c:=qq3c
   simp only at BF
 | have sM:=fun{i:Nat} (hi:i<v.keys.length)=>(Gn.mono (fun g hg=>Nat.lt_of_lt_of_le hg ee)).key hi
   simp only at BF sM;obtain⟨Fs,sx⟩:=Nu.out rfl
 obtain⟨N,hN⟩:∃N,N=v.list.length:=⟨_,rfl⟩
 first
 | have qq3c:=qq3c
   rw[←hN]at bU AW wO c0 c1 c2 c3 c4 ⊢
   have Gc:Hid (be 4 N++yy false v.keys v.list=INN):=Lib.hid (by rw[tO.out,innB,u9.out,hN];rfl)
 | rw[←hN]at bU AW wO c0 c1 c2 c3 c4 Fs ⊢
   have Gc:Hid (be 4 N++yy true v.keys v.list=INN):=Lib.hid (by rw[tO.out,innB,u9.out,hN];rfl)
 have HN:=Lib.hid hN
 first
 | done
 | have qq3c:=qq3c
 | have DS:=Lib.hid Fs
   have tG:=Lib.hid sx;clear Fs sx
 have hp:=yR none 0 0 [] N 4 w3 (Rd.nil _ _ _ _ WX _) Wq Wq;rw[yV WJ,List.nil_append,show Int.toNat 4=4 from rfl]at hp;have Ct:(be 4 N).length=4:=zr 4 N;generalize be 4 N=P0 at*;have HP4:=Lib.hid Ct;have HV:=Lib.hid Gn;have Pg:=Lib.hid uE;have IH:=Lib.hid ih;clear hN Ct Gn uE ih mm rY L9 Fj ot lK;go_wp2_with(with_reducible refine h_A ?_);refine hp.mono ?_;rintro e w4 ⟨A4,mE,rfl,Bv,Hn⟩;have Bg:=bU.below Hn;clear hp c0 c1 c2 c3 c4;have c0:=Bg.c0;have c1:=Bg.c1;have c2:=Bg.c2;have c3:=Bg.c3;have c4:=Bg.c4;go_wp2_with(with_reducible refine h_A ?_);clear c0 c1 c2 c3 c4 Bg
 first
 | have qq3c:=qq3c
   go_loopw [5,58] (fun s5 Fh wr=>∃(i ni ci:Nat) (Ai:Option Addr) (li:List UInt8),i≤N∧s5= .slice Ai ni ci∧Fh= .int .i64 i∧OwnB wr w3.heap.size Ai ni ci li∧Below w3.heap.size w3 wr∧Hid (li++yy false (v.keys.drop i) (v.list.drop i)=INN)) (fun _ Fh _=>N-(RowKit.intOf Fh).toNat)
 | go_loopw [5,58] (fun s5 Fh wr=>∃(i ni ci:Nat) (Ai:Option Addr) (li:List UInt8),i≤N∧s5= .slice Ai ni ci∧Fh= .int .i64 i∧OwnB wr w3.heap.size Ai ni ci li∧Below w3.heap.size w3 wr∧Hid (li++yy true (v.keys.drop i) (v.list.drop i)=INN)) (fun _ Fh _=>N-(RowKit.intOf Fh).toNat)
 case atStart=>exact⟨0,P0.length,mE,A4,P0,by omega,rfl,rfl,Bv,Hn,Lib.hid Gc.out⟩
 clear Bv Hn;obtain⟨i,ni,ci,Ai,li,hi,rfl,rfl,iF,hB,HC⟩:=hrel;have Bg:=AW.below hB;have bQ:ni≤INN.length:=by have:=RdB.length iF.rd;rw[←HC.out,List.length_append];omega
 have lY:=hB.size;by_cases hlt:i<N
 ·have g1:(i:Int)<(N:Int):=by omega
  have BE:i<v.list.length:=by rw[←HN.out];exact hlt
  obtain⟨b,off,hx,rfl,ep,HX⟩:=BF BE;obtain⟨k0,k1,k2,k3,k4⟩:=HX wr hB
  first
  | have qq3c:=qq3c
    have HD:Hid (yy false (v.keys.drop i) (v.list.drop i)=vlB v.list[i]++yy false (v.keys.drop (i+1)) (v.list.drop (i+1))):=Lib.hid (Yo BE _ _)
  | have mg:i<v.keys.length:=by rw[DS.out];exact hlt
    obtain⟨bk,offk,rfl,Ml⟩:=sM mg;have HD:Hid (yy true (v.keys.drop i) (v.list.drop i)=((be 1 v.keys[i].length++v.keys[i])++vlB v.list[i])++yy true (v.keys.drop (i+1)) (v.list.drop (i+1))):=Lib.hid (XA BE mg)
    have bK:v.keys[i].length≤255:=by
     exact Z4c_
  have nl:mayV zJ v.list[i]=true:=List.all_eq_true.1 wI.out _ (List.getElem_mem BE);have bP:=IH.out _ (List.getElem_mem BE);first|(have qq3c:=qq3c;clear HX BF)|(clear HX BF sM)
  generalize v.list[i]=x at*;first|done|(have qq3c:=qq3c)|(generalize v.keys[i]=ky at*)
  obtain⟨yb,w5,iD,dE,hY,bz⟩:=zg wr #[.int .u8 (x.kind:Int),.int .u64 (x.n:Int),.string (str x.s),.slice hx.A1 x.keys.length hx.c1,.slice hx.A2 x.list.length hx.c2] 78;have o6:=hB.trans (bz.mono lY);have BZ:=Bg.below bz;have lA:=zi iF bz;have gR:=o6.size;go_upto_region 19 with fail;rw[←iD,←dE];clear iD dE k0 k1 k2 k3 k4 Bg iF;have c0:=BZ.c0;have c1:=BZ.c1;have c2:=BZ.c2;have c3:=BZ.c3;have c4:=BZ.c4
  first
  | have qq3c:=qq3c
    have cM:Hid (li++vlB x++yy false (v.keys.drop (i+1)) (v.list.drop (i+1))=INN):=Lib.hid (by rw[←HC.out,HD.out,List.append_assoc]);have BD:=RdB.length lA.rd;have G1:Hid (ni+(vlB x).length≤INN.length):=Lib.hid (by rw[←cM.out,←BD];simp[List.length_append]);clear BD
    have dT:=bP hx w3.heap.size Ai ni ci li w5 (ep.under o6 (Nat.le_refl _)) lA o6.size nl (by have:=G1.out;omega)
  | have y0:=Ml w5 o6
    (have rT:zE ky.length 1=0:=by simp[zE];omega);have co:=qC Ai ni ci li ky 1 w5 lA.rd Wq Wq;rw[yS rT,rT]at co;(obtain⟨M,hM⟩:∃M,M=li++be (Int.toNat 1) ky.length++ky:=⟨_,rfl⟩);rw[←hM]at co;have cM:Hid (M++vlB x++yy true (v.keys.drop (i+1)) (v.list.drop (i+1))=INN):=Lib.hid (by rw[←HC.out,HD.out,hM];simp[List.append_assoc]);have G1:Hid (M.length+(vlB x).length≤INN.length):=Lib.hid (by rw[←cM.out];simp[List.length_append]);clear hM rT;go_wp2_with(with_reducible refine h_A ?_);refine co.mono ?_;rintro e w6 ⟨A6,c6,rfl,bS,bH⟩;have Fi:=o6.trans (bH.mono gR);have M0:=hY.below bH;have S7:=bS.base_le gR;clear co y0 c0 c1 c2 c3 c4 BZ hY lA bS;have dT:=bP hx w3.heap.size A6 M.length c6 M w6 (ep.under Fi (Nat.le_refl _)) S7 Fi.size nl (by have:=G1.out;omega)
  unfold vlV VPut at dT;first|(have qq3c:=qq3c;obtain⟨L2,MH⟩:∃L,L=li++vlB x:=⟨_,rfl⟩)|(obtain⟨L2,MH⟩:∃L,L=M++vlB x:=⟨_,rfl⟩)
  rw[←MH]at dT cM;clear MH bP ep
  first
  | have qq3c:=qq3c
    have d0:=hY.c0;have d1:=hY.c1;have d2:=hY.c2;have d3:=hY.c3
    have d4:=hY.c4
  | have d0:=M0.c0
    have d1:=M0.c1;have d2:=M0.c2;have d3:=M0.c3;have d4:=M0.c4
  go_wp2_with(with_reducible refine h_A ?_);refine dT.mono ?_;rintro e w7 ⟨A7,c7,rfl,dJ,_,Bq⟩;first|(have qq3c:=qq3c;clear dT d0 d1 d2 d3 d4 c0 c1 c2 c3 c4)|(clear dT d0 d1 d2 d3 d4)
  go_wp2_with(with_reducible refine h_A ?_);first|(have qq3c:=qq3c;exact⟨⟨i+1,L2.length,c7,A7,L2,by omega,rfl,by go_num,dJ,o6.trans Bq,cM⟩,by simp[RowKit.intOf];omega⟩)|(exact⟨⟨i+1,L2.length,c7,A7,L2,by omega,rfl,by go_num,dJ,Fi.trans Bq,cM⟩,by simp[RowKit.intOf];omega⟩)
 have g1:¬(i:Int)<(N:Int):=by omega
 have gF:li=INN:=by
  exact Z58_
 subst gF;have BD:li.length=ni:=RdB.length iF.rd;have rA:=zi Bx hB;have hp:=yR A3 n1 q3 l1 ni 4 wr rA.rd Wq Wq;rw[yV WJ,show Int.toNat 4=4 from rfl]at hp;obtain⟨M,hM⟩:∃M,M=l1++be 4 ni:=⟨_,rfl⟩
 rw[←hM]at hp;have Cx:Hid (R=M++li):=Lib.hid (by rw[eZ.out,hM,BD,List.append_assoc]);have G6:M.length+ni=R.length:=by rw[Cx.out,List.length_append,BD]
 first|(have qq3c:=qq3c;clear hM BD BF)|(clear hM BD BF sM)
 have c0:=Bg.c0;have c1:=Bg.c1;have c2:=Bg.c2;have c3:=Bg.c3;have c4:=Bg.c4;go_wp2_with(with_reducible refine h_A ?_);refine hp.mono ?_;rintro e w8 ⟨A8,c8,rfl,dS,Be⟩;have lB:=zi iF Be;have rt:=Be.size;clear hp;go_wp2_with(with_reducible refine h_A ?_);refine zc (yc slB rfl rfl rfl rfl dS lB.rd (zM _) Wq Hj rt ?_);intro A9 c9 w9 dt du _;have Bh:Below w3.heap.size w3 w9:=(hB.trans (Be.mono lY)).grown du (Nat.le_trans lY rt) (fun g hg=>by have:=(dS.blk_lt hg).1;omega);rw[←List.map_append,←Cx.out,G6]at dt;rw[G6];clear c0 c1 c2 c3 c4;go_wp2_with(with_reducible refine h_A ?_);go_ret
 exact⟨A9,c9,rfl,dt.base_le Wq,BO.on Bh,i7.trans (Bh.mono ee)⟩):p:=h
theorem Z4q_(h:p:=by
 go_wp2_with(with_reducible refine h_A ?_);refine(Ba _).mono ?_;rintro e w1 ⟨rfl,Ha⟩;have Hc:=Hr.trans (Ha.mono Hr.size);go_wp2_with(with_reducible refine h_A ?_);go_ret2
 exact⟨none,0,rfl,Own.none_ _ _ _ _,Hc⟩):p:=h
theorem Zj_(h:p:=by
 first|(have qq3d:=qq3d;have Ba:=fun W=>Xt x W hw)|(have Ba:=fun W=>Yf x W hw)
 cases bJ:x.ok
 ·have e2:x.err=40:=by simp[Xd.err,bJ]
  rw[Xd.put_no bJ,e2];rw[e2]at Ba;clear bJ e2;obtain⟨f,g,h⟩:=x;unfold xdV at Ba ⊢;simp only at Ba;have Hr:Below w.heap.size w (w.alloc (.cells #[.int .u32 (f:Int),.string (str g),.string (str h)] 73)):=(Below.refl _ _).alloc (Nat.le_refl _) _;first|(have qq3d:=qq3d;go_enter func103,ntmps103)|(go_enter func96,ntmps96)
  exact Z4q_
 have e2:x.err=0:=by simp[Xd.err,bJ]
 obtain⟨h1,h2,h3⟩:=(Xd.ok_iff x).1 bJ;first|(have qq3d:=qq3d;have md:Hid (zP (zP (puts [] x.fmt 4) x.glob 1) x.bran 1=x.bytes):=Lib.hid (by rw[zdk,ZL h2,ZL h3];rfl))|(have md:Hid (((((be 4 x.fmt++ [UInt8.ofNat x.glob.length])++x.glob)++ [UInt8.ofNat x.bran.length])++x.bran)=x.bytes):=Lib.hid (by unfold Xd.bytes;rw[be1,be1]))
 have dI:=Xd.bytes_length x;rw[Xd.put_ok bJ,e2];rw[e2]at Ba;clear bJ e2;generalize dX:x.bytes=by_ at*;clear dX;obtain⟨f,g,h⟩:=x;obtain⟨hf,_,_⟩:=hw;unfold xdV at Ba ⊢;simp only at Ba h1 h2 h3 md dI hf;have Hr:Below w.heap.size w (w.alloc (.cells #[.int .u32 (f:Int),.string (str g),.string (str h)] 73)):=(Below.refl _ _).alloc (Nat.le_refl _) _;have dd:Box (w.alloc (.cells #[.int .u32 (f:Int),.string (str g),.string (str h)] 73)) w.heap.size 73 #[.int .u32 (f:Int),.string (str g),.string (str h)]:=Box.new _ _ _;have gh:IntKind.u64.wrap (f:Int)=(f:Int):=IntWalk.u64_in _ ⟨by omega,by omega⟩
 first
 | have qq3d:=qq3d
   have Tb:=fun(A:Option Addr) (n c:Nat) (l s:List UInt8) (W:World)=>qC A n c l s 1 W
   go_enter func103,ntmps103
 | have gB:=zh g
   have nU:=zh h;(have P7:IntKind.u8.wrap ((str g).size:Int)=(g.length:Int):=by rw[gB];exact IntWalk.u8_in _ ⟨by omega,by omega⟩);(have aN:IntKind.u8.wrap ((str h).size:Int)=(h.length:Int):=by rw[nU];exact IntWalk.u8_in _ ⟨by omega,by omega⟩);have fB:=h2;have TX:=h3;(obtain⟨G,hG⟩:∃G,G=g.length:=⟨_,rfl⟩);(obtain⟨H,hH⟩:∃H,H=h.length:=⟨_,rfl⟩);rw[←hG]at P7 md dI h2;rw[←hH]at aN md dI h3;clear gB nU;have HG:=Lib.hid hG;have HH:=Lib.hid hH;clear hG hH h1;go_enter func96,ntmps96
 go_wp2_with(with_reducible refine h_A ?_);refine(Ba _).mono ?_;rintro e w1 ⟨rfl,Ha⟩;have Hc:=Hr.trans (Ha.mono Hr.size);have bL:=dd.below Ha;clear dd Hr Ha Ba;have k0:=bL.c0;have k1:=bL.c1;have k2:=bL.c2
 first
 | have qq3d:=qq3d
   have hp:=yR none 0 0 [] f 4 w1 (Rd.nil _ _ _ _ WX _) Wq Wq;(obtain⟨b1,Fo⟩:∃b1,b1=puts [] f 4:=⟨_,rfl⟩);(have gg:b1.length=4:=by rw[Fo,zdk,zr]);rw[←Fo]at hp md;rw[gg]at hp
   clear Fo
 | skip
 go_wp2_with(with_reducible refine h_A ?_);first|(have qq3d:=qq3d;refine hp.mono ?_)|(refine(ye f 4 w1 Wq Wq).mono ?_)
 rintro e w2 ⟨A2,c2,rfl,bW,Hh⟩;have Hn:=Hc.trans (Hh.mono Hc.size);have bE:=bL.below Hh
 first
 | have qq3d:=qq3d
   clear bL Hc hp k0 k1 k2
 | have bW:=bW.base_le (show w.heap.size+1≤w1.heap.size from bL.lt)
   have gg:(be 4 f).length=4:=zr _ _;have et:w.heap.size<w2.heap.size:=bE.lt;generalize be 4 f=o1 at*;clear bL Hc k0 k1 k2 Hh
 have k0:=bE.c0;have k1:=bE.c1;have k2:=bE.c2
 first
 | have qq3d:=qq3d
   have hp:=Tb A2 4 c2 b1 g w2 bW.rd Wq Wq;rw[YW h2]at hp;(obtain⟨b2,Gg⟩:∃b2,b2=zP b1 g 1:=⟨_,rfl⟩);(have cR:b2.length=5+g.length:=by rw[Gg,ZL h2];simp[zr,gg];omega);rw[←Gg]at hp md;clear Gg;generalize b2.length=N2 at*;have Lq:N2≤140737488351240:=by omega
   clear cR
 | have CE:Own (w2.alloc (.cells #[.int .u8 (G:Int)] 5)) w2.heap.size 5 1 (some ⟨w2.heap.size,0,none⟩) 1 1 ([UInt8.ofNat G].map u8v):=by
    have h:=yq (w:=w2) w2.heap.size #[.int .u8 (G:Int)] 5 1 (Nat.le_refl _) WX rfl (size:=1) Wq;rw[zdj (show G<256 by omega)]at h ⊢;exact h
   have EX:Below w.heap.size w (w2.alloc (.cells #[.int .u8 (G:Int)] 5)):=Hn.alloc Hn.size _;have FX:=bE.alloc (.cells #[.int .u8 (G:Int)] 5);have Ae:Own (w2.alloc (.cells #[.int .u8 (G:Int)] 5)) (w.heap.size+1) 5 1 A2 4 c2 (o1.map u8v):=bW.alloc (.cells #[.int .u8 (G:Int)] 5);have Is:w.heap.size+1≤_:=FX.lt;go_wp2_with(with_reducible refine h_A ?_);refine zc (yc slB rfl rfl rfl rfl Ae CE.rd (zM _) Wq Hj Is ?_);intro AA cA wA AP fm _;have rZ:=EX.grown fm EX.size (fun g hg=>by have:=(Ae.blk_lt hg).1;omega);have r4:=FX.grown fm (fun e=>by have:=(Ae.blk_lt e.symm).1;omega);rw[←List.map_append]at AP;have EB:w.heap.size+1≤_:=r4.lt;clear k0 k1 k2 Ae CE FX EX fm Is;have k0:=r4.c0;have k1:=r4.c1;have k2:=r4.c2;(have Ma:(o1++ [UInt8.ofNat G]).length=5:=by simp[gg]);clear gg bW bE Hn et;generalize o1++ [UInt8.ofNat G]=oA at*;go_wp2_with(with_reducible refine h_A ?_);refine zc (qj slB underlying9 rfl rfl rfl rfl AP Wq EB ?_);intro AB cB wB DT EV;have oR:=rZ.grown EV rZ.size (fun g hg=>by have:=(AP.blk_lt hg).1;omega);rw[←List.map_append]at DT;have Tv:w.heap.size≤_:=oR.size;have dP:=r4.grown EV (fun e=>by have:=(AP.blk_lt e.symm).1;omega);clear k0 k1 k2 EV AP r4 rZ;have k0:=dP.c0;have k1:=dP.c1;have k2:=dP.c2;(have wR:(oA++g).length=5+G:=by rw[List.length_append,Ma,HG.out]);clear Ma;generalize oA++g=oB at*
   have C9:Own (wB.alloc (.cells #[.int .u8 (H:Int)] 5)) wB.heap.size 5 1 (some ⟨wB.heap.size,0,none⟩) 1 1 ([UInt8.ofNat H].map u8v):=by
    have h:=yq (w:=wB) wB.heap.size #[.int .u8 (H:Int)] 5 1 (Nat.le_refl _) WX rfl (size:=1) Wq;rw[zdj (show H<256 by omega)]at h ⊢;exact h
   have FJ:Below w.heap.size w (wB.alloc (.cells #[.int .u8 (H:Int)] 5)):=oR.alloc oR.size _;have EZ:=dP.alloc (.cells #[.int .u8 (H:Int)] 5);have Cj:Own (wB.alloc (.cells #[.int .u8 (H:Int)] 5)) (w.heap.size+1) 5 1 AB (5+g.length) cB (oB.map u8v):=DT.alloc (.cells #[.int .u8 (H:Int)] 5);have IP:w.heap.size+1≤_:=EZ.lt
 go_wp2_with(with_reducible refine h_A ?_)
 first
 | have qq3d:=qq3d
   refine hp.mono ?_;rintro e w3 ⟨A3,c3,rfl,Bx,bz⟩;have bH:=Hn.trans (bz.mono Hn.size);have bX:=bE.below bz;clear bE Hn hp k0 k1 k2 Hh bW;have k0:=bX.c0;have k1:=bX.c1;have k2:=bX.c2;have hp:=Tb A3 N2 c3 b2 h w3 Bx.rd Wq Wq;rw[YW h3,md.out]at hp
   clear dI
 | refine zc (yc slB rfl rfl rfl rfl Cj C9.rd (zM _) Wq Hj IP ?_)
   intro AC cC wC nK gJ _;have wV:=FJ.grown gJ FJ.size (fun g hg=>by have:=(Cj.blk_lt hg).1;omega);have NU:=EZ.grown gJ (fun e=>by have:=(Cj.blk_lt e.symm).1;omega);rw[←List.map_append]at nK;have EL:w.heap.size+1≤_:=NU.lt;clear k0 k1 k2 Cj C9 EZ FJ gJ IP;have k0:=NU.c0;have k1:=NU.c1;have k2:=NU.c2;(have Pk:(oB++ [UInt8.ofNat H]).length=5+G+1:=by simp[wR]);clear wR DT dP oR Tv;generalize oB++ [UInt8.ofNat H]=oC at*
 go_wp2_with(with_reducible refine h_A ?_)
 first
 | have qq3d:=qq3d
   refine hp.mono ?_;rintro e w4 ⟨A4,c4,rfl,Bv,Bq⟩;have Be:=bH.trans (Bq.mono bH.size);have ct:=Bv.base_le bH.size
   clear hp k0 k1 k2 bX Bx Bv Tb
 | refine zc (qj slB underlying9 rfl rfl rfl rfl nK Wq EL ?_)
   intro AD cD wD oH Lz;have Ib:=wV.grown Lz wV.size (fun g hg=>by have:=(nK.blk_lt hg).1;omega);rw[←List.map_append]at oH;have Te:=Ib.size;rw[md.out]at oH;(have nY:5+g.length+1+h.length=by_.length:=by rw[dI,HG.out,HH.out];omega);have Iz:=Lib.hid nY;clear nY dI
 go_wp2_with(with_reducible refine h_A ?_);go_ret2
 first
 | have qq3d:=qq3d
   exact⟨A4,c4,rfl,ct,Be⟩
 | rw[Iz.out]at oH ⊢
   exact⟨AD,cD,rfl,oH.base_le (Nat.le_succ _),Ib⟩):p:=h
theorem Z4p_(h:p:=by
 go_wp2_with(with_reducible refine h_A ?_);refine zG rfl de rfl rfl underlying106 rfl Wj rfl ?_
 exact⟨mt0,none,0,5,rfl,RM.zero _ _,H3,.inr (.inr ⟨by omega,by rw[dB.out.1,dB.out.2];exact p7.out,.inr ⟨rfl,rfl,nM.out⟩⟩)⟩):p:=h
theorem Z3v_(h:p:=by
 first
 | have qqkn:=qqkn
   rw[decide_eq_false mw]at Ax
   have nM:Hid (∀m',yI m'=true→MB m'→putM m'≠b):=Lib.hid (fun m' h1 h2 h3=>by
    have e:=(cN.out m' ⟨h1,h2,h3⟩).1;rw[e,Iw.out]at h3
    exact mw h3.symm)
   clear mw;go_wp2_with(with_reducible refine h_A ?_);refine Ax.mono ?_
   (rintro e w6 ⟨rfl,rfl⟩)
 | have qqhi:=qqhi
   have nM:Hid (∀m',yI m'=true→MB m'→putM m'≠b):=Lib.hid (fun m' h1 h2 h3=>by have:=(cN.out m' ⟨h1,h2,h3⟩).2;cases this)
   clear Ax
 | obtain rfl:E=80:=by rw[HE.out,if_neg hE]
   have nM:Hid (∀m',yI m'=true→MB m'→putM m'≠b):=Lib.hid (fun m' h1 h2 h3=>by
    have e:=cN.out m' ⟨h1,h2,h3⟩;rw[e]at h1
    exact hE h1)
   clear hE HE
 go_wp2_with(with_reducible refine h_B ?_);refine zc (zm (v:=.agg #[.int .u8 0,.int .u8 0,.bool false,.slice none 0 0]) (vs:=[.int .u8 0,.int .u8 0,.bool false,.slice none 0 0]) rfl rfl rfl rfl fY rfl Wj Wz qP #[.int .u8 0,.int .u8 0,.bool false,.slice none 0 0] Wz ?_);intro oG de BY _;first|(have qqkn:=qqkn;have H3:=H6.grown BY H6.size Wx)|(have qqhi:=qqhi;have H3:=H6.grown BY H6.size Wx)|(have H3:=(H6).grown BY (H6).size Wx)
 exact Z4p_):p:=h
theorem Z3o_(h:p:=by
 first
 | have qqfi:=qqfi
   (obtain rfl:E=0:=by rw[HE.out,if_pos hE]);have HG:=Lib.hid hE;clear hE HE
   by_cases mw:P=b
 | by_cases hE:yI M=true
 ·first
  | have qqfi:=qqfi
    (have hq:((str P).toList==(str b).toList)=true:=by rw[Ft.out,decide_eq_true mw]);have P3:=Lib.hid mw;clear mw;have y0:=gC.c0;have y1:=gC.c1;have y2:=gC.c2;have y3:=gC.c3;go_wp2_with(with_reducible refine h_B ?_);refine zc (zm (v:=.agg #[.int .u8 (x.toNat:Int),.int .u8 (y.toNat:Int),.bool sync,.slice A3 kd.length c3]) (vs:=[.int .u8 (x.toNat:Int),.int .u8 (y.toNat:Int),.bool sync,.slice A3 kd.length c3]) rfl rfl rfl rfl fY rfl Wj Wz qP #[.int .u8 (x.toNat:Int),.int .u8 (y.toNat:Int),.bool sync,.slice A3 kd.length c3] Wz ?_);intro oG de BY _;have H3:=H6.grown BY H6.size Wx;go_wp2_with(with_reducible refine h_A ?_);refine zG rfl de rfl rfl underlying106 rfl Wj rfl ?_;refine⟨M,A3,c3,0,by rw[HV.out];rfl,?_,H3,.inr (.inr ⟨by omega,by rw[dB.out.1,dB.out.2];exact p7.out,.inl ⟨rfl,MD.out,HG.out,by rw[Iw.out];exact P3.out⟩⟩)⟩
    exact(Gs.keep (fun g hg=>BY.block g hg.2 Hz) BY.size).mono (fun g hg=>⟨by have:=hg.1;omega,Nat.lt_of_lt_of_le hg.2 BY.size⟩)
  | obtain rfl:E=0:=by rw[HE.out,if_pos hE]
    have HG:=Lib.hid hE;clear hE HE;by_cases mw:b=P
    ·rw[decide_eq_true mw]at Ax;have P3:=Lib.hid mw;clear mw;go_wp2_with(with_reducible refine h_A ?_);refine Ax.mono ?_;rintro e w6 ⟨rfl,rfl⟩;have y0:=gC.c0;have y1:=gC.c1;have y2:=gC.c2;have y3:=gC.c3;go_wp2_with(with_reducible refine h_B ?_);refine zc (zm (v:=.agg #[.int .u8 (x.toNat:Int),.int .u8 (y.toNat:Int),.bool sync,.slice A3 kd.length c3]) (vs:=[.int .u8 (x.toNat:Int),.int .u8 (y.toNat:Int),.bool sync,.slice A3 kd.length c3]) rfl rfl rfl rfl fY rfl Wj Wz qP #[.int .u8 (x.toNat:Int),.int .u8 (y.toNat:Int),.bool sync,.slice A3 kd.length c3] Wz ?_);intro oG de BY _;have H3:=H6.grown BY H6.size Wx;go_wp2_with(with_reducible refine h_A ?_);refine zG rfl de rfl rfl underlying106 rfl Wj rfl ?_;refine⟨M,A3,c3,0,by rw[HV.out];rfl,?_,H3,.inr (.inr ⟨by omega,by rw[dB.out.1,dB.out.2];exact p7.out,.inl ⟨rfl,MD.out,HG.out,by rw[Iw.out];exact P3.out.symm⟩⟩)⟩;exact(Gs.keep (fun g hg=>BY.block g hg.2 Hz) BY.size).mono (fun g hg=>⟨by have:=hg.1;omega,Nat.lt_of_lt_of_le hg.2 BY.size⟩)
    ·have qqkn:=();exact Z3v_
 first
 | have qqfi:=qqfi
   have hq:((str P).toList==(str b).toList)=false:=by rw[Ft.out,decide_eq_false mw]
   have nM:Hid (∀m',yI m'=true→MB m'→putM m'≠b):=Lib.hid (fun m' h1 h2 h3=>by
    have e:=cN.out m' ⟨h1,h2,h3⟩;rw[e,Iw.out]at h3
    exact mw h3)
   clear mw
 | obtain rfl:E=80:=by rw[HE.out,if_neg hE]
   have nM:Hid (∀m',yI m'=true→MB m'→putM m'≠b):=Lib.hid (fun m' h1 h2 h3=>by
    have e:=(cN.out m' ⟨h1,h2,h3⟩).1;rw[e]at h1
    exact hE h1)
   clear hE HE Ax
 go_wp2_with(with_reducible refine h_B ?_);refine zc (zm (v:=.agg #[.int .u8 0,.int .u8 0,.bool false,.slice none 0 0]) (vs:=[.int .u8 0,.int .u8 0,.bool false,.slice none 0 0]) rfl rfl rfl rfl fY rfl Wj Wz qP #[.int .u8 0,.int .u8 0,.bool false,.slice none 0 0] Wz ?_);intro oG de BY _;first|(have qqfi:=qqfi;have H3:=(H6).grown BY (H6).size Wx)|(have H3:=H6.grown BY H6.size Wx)
 exact Z4p_):p:=h
theorem Zk_(h:p:=by
 have g1:¬(i:Int)<(kd.length:Int):=by omega
 obtain rfl:i=kd.length:=by omega
 first|done|(have qq3e:=qq3e)|(have NH:w.heap.size≤bs:=by omega)
 have mu:=hS.rm (Nat.le_refl bs) x.toNat y.toNat sync (UInt8.toNat_lt x) (UInt8.toNat_lt y) (by have:=un.out;omega);first|(have qq3e:=qq3e;have sN:=VV ⟨x.toNat,y.toNat,sync,xs.map (·.1)⟩ A3 c3 wr (mu.mono (fun g hg=>hg.2)))|(have sN:=OY.out ⟨x.toNat,y.toNat,sync,xs.map (·.1)⟩ A3 c3 wr rfl rfl (mu.mono (fun g hg=>hg.2)) hB)
 have ek:=Ji ⟨x.toNat,y.toNat,sync,xs.map (·.1)⟩;have EA:=RM.ab mu;obtain⟨M,hM⟩:∃q,q=(⟨x.toNat,y.toNat,sync,xs.map (·.1)⟩:Mt):=⟨_,rfl⟩
 first
 | have qq3e:=qq3e
   have cN:Hid (∀m',Told b m'→m'=M):=Lib.hid (fun m' pd=>by rw[hM,mi.out];exact(ReadTo.all uU.out u9.out Am.out pd).1)
 | have La:=Lib.hid hM
   have cN:Hid (∀m',Told b m'→m'=M∧b3=false):=Lib.hid (fun m' pd=>by rw[hM,mi.out];exact ReadTo.all uU.out u9.out Am.out pd)
 have e1:mtV (⟨x.toNat,y.toNat,sync,xs.map (·.1)⟩:Mt) A3 c3= #[.int .u8 (x.toNat:Int),.int .u8 (y.toNat:Int),.bool sync,.slice A3 kd.length c3]:=by unfold mtV;simp only[List.length_map,un.out]
 have HV:Hid (mtV M A3 c3= #[.int .u8 (x.toNat:Int),.int .u8 (y.toNat:Int),.bool sync,.slice A3 kd.length c3]):=Lib.hid (by rw[hM];exact e1);rw[e1]at sN;unfold MPut at sN;rw[←hM]at sN ek EA mu;have HE:Hid (errM M=if yI M=true then 0 else 80):=Lib.hid rfl;first|done|(have qq3e:=qq3e)|(have HP:Hid (putM M=putM M):=Lib.hid rfl)
 generalize MG:putM M=P at sN ek;generalize errM M=E at*;have Iw:=Lib.hid MG;have MD:=Lib.hid EA;first|(have qq3e:=qq3e;clear hM e1 MG EA Am mi hq)|(clear hM e1 MG EA HP Am mi)
 have y0:=hm.c0;have y1:=hm.c1;have y2:=hm.c2;have y3:=hm.c3;go_wp2_with(with_reducible refine h_A ?_);refine sN.mono ?_;rintro e w5 ⟨T0,TK,rfl,ct,bz⟩;have gC:=hm.below bz;have fY:=hz.below bz;first|done|(have qq3e:=qq3e)|(have ew:MRd w5 w.heap.size rb l3 b3:=hR.kp ((KP.refl w.heap.size mb mb wr).below hB.size bz) Wq Wq)
 have H6:=hB.trans (bz.mono hB.size);have dv:RdB w5 w.heap.size (some ⟨g,off,none⟩) n c b:=hr.below H6;have Gs:RM w5 (FN bs w5) M A3 c3:=(mu.keep (fun g hg=>bz.block g hg.2) bz.size).mono (fun g hg=>⟨hg.1,Nat.lt_of_lt_of_le hg.2 bz.size⟩)
 first
 | have qq3e:=qq3e
   have dF:=jh (w:=w5) ct.rd;have fj:=jh (w:=w5) dv
   have Ft:Hid (((str P).toList==(str b).toList)=decide (P=b)):=Lib.hid (zb1 _ _)
 | have Ax:=Z2 _ _ _ _ T0 P.length TK P _ _ w5 dv ct.rd Wq Wq
   obtain⟨Ar,nr,cr,bV,_,_⟩:=ew;have q1:=bV.c1
 have Ru:=gC.lt
 first
 | have qq3e:=qq3e
   clear sN y0 y1 y2 y3 hm hz hR hB hS mu r3;by_cases hE:yI M=true
   ·have qqfi:=();exact Z3o_
   ·exact Z3v_
 | clear sN y0 y1 y2 y3 hm hz hR hB hS Hp mu dv bV
   cases b3
   case true=>
    have qqhi:=();exact Z3v_
   case false=>
    exact Z3o_):p:=h
theorem Z3z_(h:p:=by
 have HV:=Lib.hid BS;clear BS
 first
 | have qqi1:=qqi1
   obtain rfl:OK=false:=by rw[BA.out];simp[okA,zw,ag0,agN,agS,agX,agQ,agX2,xd0,cF.out,HN.out,HS.out,HQ.out,HV.out]
 | have qqi0:=qqi0
   obtain rfl:OK=false:=by rw[BA.out];simp[okA,zw,ag0,agN,agS,agX,agQ,agX2,xd0,HN.out,HS.out,HX.out,HQ.out,HV.out]
 | obtain rfl:OK=false:=by rw[BA.out];simp[okA,zw,ag0,agN,agS,agX,agQ,agX2,xd0,cF.out,HN.out,HS.out,HX.out,HV.out]
 exact Z4m_):p:=h
theorem Zl_(h:p:=by
 unfold agV;obtain⟨xb,w1,Hg,Hi,hX,Ha⟩:=zg w #[.bool a.is,.int .u64 (a.n:Int),.string (str a.s),.int .u32 (a.x.fmt:Int),.string (str a.x.glob),.string (str a.x.bran),.slice h.A a.q.length h.c,.int .u8 (a.v.kind:Int),.int .u64 (a.v.n:Int),.string (str a.v.s),.slice h.h.A1 a.v.keys.length h.h.c1,.slice h.h.A2 a.v.list.length h.h.c2] 80;have dD:=ha.up Ha;have cO:=qx a.v vl0 h.h ⟨none,0,none,0⟩ w1 dD.v (RV.zero _ _);unfold jI vlV vl0 at cO;obtain⟨sv,Bi⟩:∃s,s=yJ a.v (.mk 0 0 [] [] []):=⟨_,rfl⟩
 rw[←Bi]at cO;have BS:yJ a.v vl0=sv:=Bi.symm;clear Bi
 first
 | have qq3h:=qq3h
   obtain⟨OK,fM⟩:∃o,o=okA 120 a:=⟨_,rfl⟩
   obtain⟨L,hL⟩:∃l,l=byA 120 a:=⟨_,rfl⟩
 | have qq3g:=qq3g
   obtain⟨OK,fM⟩:∃o,o=okA 98 a:=⟨_,rfl⟩
   obtain⟨L,hL⟩:∃l,l=byA 98 a:=⟨_,rfl⟩
 | have qq3f:=qq3f
   obtain⟨OK,fM⟩:∃o,o=okA 118 a:=⟨_,rfl⟩
   obtain⟨L,hL⟩:∃l,l=byA 118 a:=⟨_,rfl⟩
 | obtain⟨OK,fM⟩:∃o,o=okA 114 a:=⟨_,rfl⟩
   obtain⟨L,hL⟩:∃l,l=byA 114 a:=⟨_,rfl⟩
 rw[←fM,←hL];have BA:=Lib.hid fM;have HL:=Lib.hid hL;clear fM hL;have dr:=zh a.s;have c_0:=hX.c0;have c_1:=hX.c1;have c_2:=hX.c2;have c_3:=hX.c3;have c_4:=hX.c4;have c_5:=hX.c5;have c_6:=hX.c6;have c_7:=hX.c7;have c_8:=hX.c8;have c_9:=hX.c9;have c_10:=hX.c10;have c_11:=hX.c11;obtain⟨is,BQ⟩:∃i,i=a.is:=⟨_,rfl⟩
 rw[←BQ]at c_0
 first
 | have qq3h:=qq3h
   cases is
   ·have qqi6:=()
    exact Z40_
 | have qq3g:=qq3g
   by_cases hn:a.n=0
 | cases is
   ·have qqi5:=();exact Z40_
 ·first
  | have qq3h:=qq3h
    have cF:=Lib.hid BQ.symm;clear BQ
    by_cases hn:a.n=0
  | have qq3g:=qq3g
    (have gn:((a.n:Int)!=0)=false:=by simp;omega);have HN:=Lib.hid hn;clear hn
    by_cases hs:a.s=[]
  | have cF:=Lib.hid BQ.symm
    clear BQ;by_cases hn:a.n=0
  ·first
   | have qq3h:=qq3h
     (have gn:((a.n:Int)!=0)=false:=by simp;omega);have HN:=Lib.hid hn;clear hn
     by_cases hs:a.s=[]
   | have qq3g:=qq3g
     (have gs:((str a.s).toList != [])=false:=by rw[zn,hs];simp);(have sH:(str a.s).toList.isEmpty=true:=by rw[zn,hs];rfl);have HS:=Lib.hid hs;clear hs
     by_cases hx:a.x=xd0
   | have gn:((a.n:Int)!=0)=false:=by simp;omega
     have HN:=Lib.hid hn;clear hn;by_cases hs:a.s=[]
   ·first
    | have qq3h:=qq3h
      (have gs:((str a.s).toList != [])=false:=by rw[zn,hs];simp);(have sH:(str a.s).toList.isEmpty=true:=by rw[zn,hs];rfl);have HS:=Lib.hid hs;clear hs
      by_cases hq:a.q.length=0
    | have qq3g:=qq3g
      have nk:=fun x y=>run_eqGuard_agg (P:=prog) w1 .neq 73 x y #[.int .u32 (a.x.fmt:Int),.string (str a.x.glob),.string (str a.x.bran)] #[.int .u32 0,.string ⟨#[]⟩,.string ⟨#[]⟩] yw
      have hne:∀w,(binOp .neq 73 (.agg #[.int .u32 (a.x.fmt:Int),.string (str a.x.glob),.string (str a.x.bran)]) (.agg #[.int .u32 0,.string ⟨#[]⟩,.string ⟨#[]⟩])).run prog w= .ok (.bool false) w:=fun w=>by
       have:=yW a.x xd0 w;rw[decide_eq_true hx]at this;exact this
      have HX:=Lib.hid hx;clear hx
      by_cases hq:a.q.length=0
    | have gs:((str a.s).toList != [])=false:=by rw[zn,hs];simp
      (have sH:(str a.s).toList.isEmpty=true:=by rw[zn,hs];rfl);have HS:=Lib.hid hs;clear hs;by_cases hx:a.x=xd0
    ·first
     | have qq3h:=qq3h
       (have gq:¬(0:Int)<(a.q.length:Int):=by omega);have HQ:=Lib.hid (List.length_eq_zero_iff.1 hq);clear hq
       cases sv
       ·have qqi1:=()
        exact Z3z_
     | have qq3g:=qq3g
       (have gq:¬(0:Int)<(a.q.length:Int):=by omega);have HQ:=Lib.hid (List.length_eq_zero_iff.1 hq);clear hq
       cases sv
       ·have qqi0:=()
        exact Z3z_
     | have qq3f:=qq3f
       have nk:=fun x y=>run_eqGuard_agg (P:=prog) w1 .neq 73 x y #[.int .u32 (a.x.fmt:Int),.string (str a.x.glob),.string (str a.x.bran)] #[.int .u32 0,.string ⟨#[]⟩,.string ⟨#[]⟩] yw
       have hne:∀w,(binOp .neq 73 (.agg #[.int .u32 (a.x.fmt:Int),.string (str a.x.glob),.string (str a.x.bran)]) (.agg #[.int .u32 0,.string ⟨#[]⟩,.string ⟨#[]⟩])).run prog w= .ok (.bool false) w:=fun w=>by
        have:=yW a.x xd0 w;rw[decide_eq_true hx]at this;exact this
       have HX:=Lib.hid hx;clear hx
       by_cases hq:a.q.length=0
     | have nk:=fun x y=>run_eqGuard_agg (P:=prog) w1 .neq 73 x y #[.int .u32 (a.x.fmt:Int),.string (str a.x.glob),.string (str a.x.bran)] #[.int .u32 0,.string ⟨#[]⟩,.string ⟨#[]⟩] yw
       have hne:∀w,(binOp .neq 73 (.agg #[.int .u32 (a.x.fmt:Int),.string (str a.x.glob),.string (str a.x.bran)]) (.agg #[.int .u32 0,.string ⟨#[]⟩,.string ⟨#[]⟩])).run prog w= .ok (.bool false) w:=fun w=>by
        have:=yW a.x xd0 w;rw[decide_eq_true hx]at this;exact this
       have HX:=Lib.hid hx;clear hx
       cases sv
       ·exact Z3z_
     ·first
      | have qq3h:=qq3h
        have HV:=Lib.hid BS;clear BS;obtain rfl:L=a.x.put:=by rw[HL.out];simp[byA]
        have mO:Hid (OK=decide (((a.x.err:Nat):Int)=0)):=Lib.hid (by rw[BA.out];simp[okA,zw,ag0,agN,agS,agX,agQ,agX2,xd0,cF.out,HN.out,HS.out,HQ.out,HV.out])
      | have qq3g:=qq3g
        have HV:=Lib.hid BS;clear BS;obtain rfl:OK=true:=by rw[BA.out];simp[okA,zw,ag0,agN,agS,agX,agQ,agX2,xd0,HN.out,HS.out,HX.out,HQ.out,HV.out]
        obtain rfl:L=[]:=by rw[HL.out];simp[byA]
      | have qq3f:=qq3f
        (have gq:¬(0:Int)<(a.q.length:Int):=by omega);have HQ:=Lib.hid (List.length_eq_zero_iff.1 hq);clear hq;(obtain rfl:L=vlP a.v:=by rw[HL.out];simp[byA]);have mO:Hid (OK=decide (errV a.v=0)):=Lib.hid (by rw[BA.out];simp[okA,zw,ag0,agN,agS,agX,agQ,agX2,xd0,J4,cF.out,HN.out,HS.out,HX.out,HQ.out]);clear cO BS;have hp:=QF a.v h.h w1 dD.v;unfold vlV at hp;generalize vlP a.v=M at*;generalize errV a.v=E at*
        clear dD
      | have HV:=Lib.hid BS
        clear BS;(obtain rfl:L=yL a.q:=by rw[HL.out];simp[byA]);have mO:Hid (OK=decide (((yf a.q:Nat):Int)=0)):=Lib.hid (by rw[BA.out];simp[okA,zw,ag0,agN,agS,agX,agQ,agX2,xd0,cF.out,HN.out,HS.out,HX.out,HV.out])
      go_enter func60,ntmps60;go_upto_region 1 with fail;rw[←Hg,←Hi];clear Hg Hi
      first
      | done
      | have qq3h:=qq3h
        go_wp2_with(with_reducible refine h_A ?_);refine cO.mono ?_;rintro e w2 ⟨rfl,Hc⟩;have Hk:=hX.below Hc;have db:=dD.up Hc;have H3:=Ha.trans (Hc.mono Ha.size);have cj:=H3.size;clear c_0 c_1 c_2 c_3 c_4 c_5 c_6 c_7 c_8 c_9 c_10 c_11;clear cO;have c_0:=Hk.c0;have c_1:=Hk.c1;have c_2:=Hk.c2;have c_3:=Hk.c3;have c_4:=Hk.c4;have c_5:=Hk.c5;have c_6:=Hk.c6;have c_7:=Hk.c7;have c_8:=Hk.c8;have c_9:=Hk.c9;have c_10:=Hk.c10;have c_11:=Hk.c11;have hp:=J5 a.x w2 db.x;unfold xdV at hp;generalize a.x.put=M at*;generalize((a.x.err:Nat):Int)=E at*
        clear dD db
      | have qq3g:=qq3g
      | have qq3f:=qq3f
      | go_wp2_with(with_reducible refine h_A ?_)
        refine cO.mono ?_;rintro e w2 ⟨rfl,Hc⟩;have Hk:=hX.below Hc;have db:=dD.up Hc;have H3:=Ha.trans (Hc.mono Ha.size);have cj:=H3.size;clear c_0 c_1 c_2 c_3 c_4 c_5 c_6 c_7 c_8 c_9 c_10 c_11;clear cO;have c_0:=Hk.c0;have c_1:=Hk.c1;have c_2:=Hk.c2;have c_3:=Hk.c3;have c_4:=Hk.c4;have c_5:=Hk.c5;have c_6:=Hk.c6;have c_7:=Hk.c7;have c_8:=Hk.c8;have c_9:=Hk.c9;have c_10:=Hk.c10;have c_11:=Hk.c11;have hp:=J2 h.A a.q.length h.c a.q w2.heap.size w2 db.q.1 db.ok (Nat.le_refl _) (by have:=db.c;omega);generalize yL a.q=M at*;generalize((yf a.q:Nat):Int)=E at*;clear dD db
      go_wp2_with(with_reducible refine h_A ?_)
      first
      | have qq3h:=qq3h
        refine hp.mono ?_;rintro e w3 ⟨A3,c3,rfl,Bx,Hh⟩
        clear hp
      | have qq3g:=qq3g
        refine cO.mono ?_;rintro e w2 ⟨rfl,Hc⟩;have Hk:=hX.below Hc;have db:=dD.up Hc;have H3:=Ha.trans (Hc.mono Ha.size)
        have cj:=H3.size
      | refine hp.mono ?_
        rintro e w3 ⟨A3,c3,rfl,Bx,Hh⟩;clear hp
      clear c_0 c_1 c_2 c_3 c_4 c_5 c_6 c_7 c_8 c_9 c_10 c_11
      first
      | done
      | have qq3h:=qq3h
      | have qq3g:=qq3g
        clear cO;have c_0:=Hk.c0;have c_1:=Hk.c1;have c_2:=Hk.c2;have c_3:=Hk.c3;have c_4:=Hk.c4;have c_5:=Hk.c5;have c_6:=Hk.c6;have c_7:=Hk.c7;have c_8:=Hk.c8;have c_9:=Hk.c9;have c_10:=Hk.c10
        have c_11:=Hk.c11
      | skip
      go_wp2_with(with_reducible refine h_A ?_);go_ret2
      first
      | have qq3h:=qq3h
        refine⟨A3,_,c3,?_,H3.trans (Hh.mono cj),fun _=>⟨rfl,Own.base_le Bx cj⟩⟩;rw[mO.out]
        first|rfl|(simp;done)|(congr)
      | have qq3g:=qq3g
        exact⟨none,_,0,rfl,H3,fun _=>⟨rfl,Own.none_ _ _ _ _⟩⟩
      | have qq3f:=qq3f
        refine⟨A3,_,c3,?_,Ha.trans (Hh.mono Ha.size),fun _=>⟨rfl,Own.base_le Bx Ha.size⟩⟩;rw[mO.out]
        first|rfl|(simp;done)|(congr)
      | refine⟨A3,_,c3,?_,H3.trans (Hh.mono cj),fun _=>⟨rfl,Own.base_le Bx cj⟩⟩
        rw[mO.out];first|rfl|(simp;done)|(congr)
     first
     | done
     | have qq3h:=qq3h
     | have qq3g:=qq3g
     | have qq3f:=qq3f
       ·exact Z40_
     | skip
    first
    | have qq3h:=qq3h
      (have gq:(0:Int)<(a.q.length:Int):=by omega);have HQ:Hid (¬a.q=[]):=Lib.hid (fun e=>hq (List.length_eq_zero_iff.2 e));clear hq
      obtain rfl:OK=false:=by rw[BA.out];simp[okA,zw,ag0,agN,agS,agX,agQ,agX2,xd0,cF.out,HN.out,HS.out,HQ.out]
    | have qq3g:=qq3g
      (have gq:(0:Int)<(a.q.length:Int):=by omega);have HQ:Hid (¬a.q=[]):=Lib.hid (fun e=>hq (List.length_eq_zero_iff.2 e));clear hq
      obtain rfl:OK=false:=by rw[BA.out];simp[okA,zw,ag0,agN,agS,agX,agQ,agX2,xd0,HN.out,HS.out,HX.out,HQ.out]
    | have nk:=fun x y=>run_eqGuard_agg (P:=prog) w1 .neq 73 x y #[.int .u32 (a.x.fmt:Int),.string (str a.x.glob),.string (str a.x.bran)] #[.int .u32 0,.string ⟨#[]⟩,.string ⟨#[]⟩] yw
      have hne:∀w,(binOp .neq 73 (.agg #[.int .u32 (a.x.fmt:Int),.string (str a.x.glob),.string (str a.x.bran)]) (.agg #[.int .u32 0,.string ⟨#[]⟩,.string ⟨#[]⟩])).run prog w= .ok (.bool true) w:=fun w=>by
       have:=yW a.x xd0 w;rw[decide_eq_false hx]at this;exact this
      have HX:Hid (¬a.x=⟨0,[],[]⟩):=Lib.hid hx;clear hx;obtain rfl:OK=false:=by rw[BA.out];simp[okA,zw,ag0,agN,agS,agX,agQ,agX2,xd0,cF.out,HN.out,HS.out,HX.out]
    exact Z4t_
   first
   | have qq3h:=qq3h
     (have gs:((str a.s).toList != [])=true:=by rw[zn];simpa using hs);(have sH:(str a.s).toList.isEmpty=false:=by rw[zn];simpa using hs);have HS:=Lib.hid hs;clear hs
     obtain rfl:OK=false:=by rw[BA.out];simp[okA,zw,ag0,agN,agS,agX,agQ,agX2,xd0,cF.out,HN.out,HS.out]
   | have qq3g:=qq3g
     have nk:=fun x y=>run_eqGuard_agg (P:=prog) w1 .neq 73 x y #[.int .u32 (a.x.fmt:Int),.string (str a.x.glob),.string (str a.x.bran)] #[.int .u32 0,.string ⟨#[]⟩,.string ⟨#[]⟩] yw
     have hne:∀w,(binOp .neq 73 (.agg #[.int .u32 (a.x.fmt:Int),.string (str a.x.glob),.string (str a.x.bran)]) (.agg #[.int .u32 0,.string ⟨#[]⟩,.string ⟨#[]⟩])).run prog w= .ok (.bool true) w:=fun w=>by
      have:=yW a.x xd0 w;rw[decide_eq_false hx]at this;exact this
     have HX:Hid (¬a.x=⟨0,[],[]⟩):=Lib.hid hx;clear hx
     obtain rfl:OK=false:=by rw[BA.out];simp[okA,zw,ag0,agN,agS,agX,agQ,agX2,xd0,HN.out,HS.out,HX.out]
   | have gs:((str a.s).toList != [])=true:=by rw[zn];simpa using hs
     (have sH:(str a.s).toList.isEmpty=false:=by rw[zn];simpa using hs);have HS:=Lib.hid hs;clear hs;obtain rfl:OK=false:=by rw[BA.out];simp[okA,zw,ag0,agN,agS,agX,agQ,agX2,xd0,cF.out,HN.out,HS.out]
   exact Z4t_
  first
  | have qq3h:=qq3h
    (have gn:((a.n:Int)!=0)=true:=by simp;omega);have HN:=Lib.hid hn;clear hn
    obtain rfl:OK=false:=by rw[BA.out];simp[okA,zw,ag0,agN,agS,agX,agQ,agX2,xd0,cF.out,HN.out]
  | have qq3g:=qq3g
    (have gs:((str a.s).toList != [])=true:=by rw[zn];simpa using hs);(have sH:(str a.s).toList.isEmpty=false:=by rw[zn];simpa using hs);have HS:=Lib.hid hs;clear hs
    obtain rfl:OK=false:=by rw[BA.out];simp[okA,zw,ag0,agN,agS,agX,agQ,agX2,xd0,HN.out,HS.out]
  | have gn:((a.n:Int)!=0)=true:=by simp;omega
    have HN:=Lib.hid hn;clear hn;obtain rfl:OK=false:=by rw[BA.out];simp[okA,zw,ag0,agN,agS,agX,agQ,agX2,xd0,cF.out,HN.out]
  exact Z4t_
 first
 | done
 | have qq3h:=qq3h
 | have qq3g:=qq3g
   ·(have gn:((a.n:Int)!=0)=true:=by simp;omega);have HN:=Lib.hid hn;clear hn;obtain rfl:OK=false:=by rw[BA.out];simp[okA,zw,ag0,agN,agS,agX,agQ,agX2,xd0,HN.out]
    exact Z4t_
 | skip):p:=h
theorem Zm_(h:p:=by
 first
 | have qq3j:=qq3j
   have cX:=Yt l;obtain⟨lr,fA⟩:∃y,y=(if(bad||decide (zO l≠0))=true then l else l.drop (qw l)):=⟨_,rfl⟩
   obtain⟨br,bV⟩:∃y,y=(bad||decide (zO l≠0)):=⟨_,rfl⟩
 | have qq3i:=qq3i
   have cX:=Jk l;rw[hg]at cX;obtain⟨lr,fA⟩:∃y,y=(if(bad||decide (er≠0))=true then l else l.drop n):=⟨_,rfl⟩
   obtain⟨br,bV⟩:∃y,y=(bad||decide (er≠0)):=⟨_,rfl⟩
 | have cX:=zbi l
   have G0:=zbj l;rw[hg]at cX G0;(obtain⟨lr,fA⟩:∃y,y=(if(bad||decide (er≠0))=true then l else l.drop n):=⟨_,rfl⟩);obtain⟨br,bV⟩:∃y,y=(bad||decide (er≠0)):=⟨_,rfl⟩
 rw[←fA,←bV];have oI:=Lib.hid fA;have oh:=Lib.hid bV;clear fA bV;obtain⟨A,m,c,cU,hr,hm⟩:=h;have BD:l.length=m:=RdB.length hr;have gc:=cU.lt;have CS:=ha.lt;have bI:B≤w.heap.size:=by omega
 first
 | have qq3j:=qq3j
   have f8:=VO A m c l w (yU hr bI) hm
 | have qq3i:=qq3i
   have f8:=VN A m c l w (yU hr bI) hm
   rw[hg]at f8
 | have f8:=zbq A m c l w (yU hr bI) Wq hT
   rw[hg]at f8
 have c0:=cU.c0
 first
 | have qq3j:=qq3j
   generalize zO l=er at*;generalize qw l=n at*
   go_enter func134,ntmps134
 | have qq3i:=qq3i
   simp only at cX f8;unfold xdV at f8;clear hg
   go_enter func133,ntmps133
 | simp only at cX G0
   clear hg hT;go_enter func135,ntmps135
 go_wp2_with(with_reducible refine h_A ?_);refine f8.mono ?_
 first
 | have qq3j:=qq3j
   rintro e w4 ⟨A2,c2,rfl,Bv,Hc⟩;have eR:=(KP.refl B rb ab w).below bI Hc;have dK:=cU.below Hc;have rU:=ha.below Hc;have cV:=hr.below (Hc.mono bI);have ot:=Hc.size
   clear f8 c0 cU ha hr Hc
 | have qq3i:=qq3i
   rintro e w2 ⟨rfl,Hc⟩;have dQ:=(KP.refl B rb ab w).below bI Hc;have bE:=cU.below Hc;have db:=ha.below Hc;have cE:=hr.below (Hc.mono bI);have cj:=Hc.size;have hz:=Box.new w2 #[.int .u32 0,.string ⟨#[]⟩,.string ⟨#[]⟩] 73;have dc:=(Below.refl w2.heap.size w2).alloc (Nat.le_refl _) (.cells #[.int .u32 0,.string ⟨#[]⟩,.string ⟨#[]⟩] 73);have bX:=bE.below dc;have mp:=db.below dc;have cl:=cE.below (dc.mono Wq);have BO:=dQ.below bI dc;clear f8 c0 cU ha hr Hc bE db cE dQ;go_wp2_with(with_reducible refine h_B ?_);(obtain⟨zb,eT⟩:∃g,g=w2.heap.size:=⟨_,rfl⟩);rw[←eT]at hz cj ⊢;clear eT dc;generalize(w2.alloc (.cells #[.int .u32 0,.string ⟨#[]⟩,.string ⟨#[]⟩] 73))=w3 at*;refine zc (zm (v:=.agg #[.int .u32 (x.fmt:Int),.string (str x.glob),.string (str x.bran)]) (vs:=[.int .u32 (x.fmt:Int),.string (str x.glob),.string (str x.bran)]) rfl rfl rfl rfl hz rfl Wj Wz mj #[.int .u32 (x.fmt:Int),.string (str x.glob),.string (str x.bran)] Wz ?_);intro w4 eX Bb _;have dK:=bX.grown Bb (sne Wq);have rU:=mp.grown Bb (sne Wq);have cV:=cl.grown Bb (by have:=hz.lt;omega) Wx;have eR:=BO.grown bI Bb (fun g hg=>by injection hg with hg;exact⟨by omega,.inr (.inr Wq)⟩);clear hz bX mp cl BO Bb;have x0:=eX.c0;have x1:=eX.c1
   have x2:=eX.c2
 | rintro e w2 ⟨h1,rfl,hV,Hc⟩
   simp only at hV;unfold vlV;simp only;have dQ:=(KP.refl B rb ab w).below bI Hc;have bE:=cU.below Hc;have db:=ha.below Hc;have cE:=hr.below (Hc.mono bI);have cj:=Hc.size;have hz:=Box.new w2 #[.int .u8 0,.int .u64 0,.string ⟨#[]⟩,.slice none 0 0,.slice none 0 0] 78;have dc:=(Below.refl w2.heap.size w2).alloc (Nat.le_refl _) (.cells #[.int .u8 0,.int .u64 0,.string ⟨#[]⟩,.slice none 0 0,.slice none 0 0] 78);have bX:=bE.below dc;have mp:=db.below dc;have cl:=cE.below (dc.mono Wq);have BO:=dQ.below bI dc;have hV3:RV (w2.alloc (.cells #[.int .u8 0,.int .u64 0,.string ⟨#[]⟩,.slice none 0 0,.slice none 0 0] 78)) (FN w.heap.size (w2.alloc (.cells #[.int .u8 0,.int .u64 0,.string ⟨#[]⟩,.slice none 0 0,.slice none 0 0] 78))) x h1:=(hV.keep (fun g hg=>dc.block g hg.2) dc.size).mono (fun g hg=>⟨hg.1,Nat.lt_of_lt_of_le hg.2 dc.size⟩);(have Tp:∀g,FN w.heap.size w2 g→g<w2.heap.size:=fun g hg=>hg.2);clear f8 c0 cU ha hr Hc bE db cE dQ;go_wp2_with(with_reducible refine h_B ?_);(obtain⟨zb,eT⟩:∃g,g=w2.heap.size:=⟨_,rfl⟩);rw[←eT]at hz cj ⊢;have Mu:RV (w2.alloc (.cells #[.int .u8 0,.int .u64 0,.string ⟨#[]⟩,.slice none 0 0,.slice none 0 0] 78)) (fun g=>w.heap.size≤g∧g<zb) x h1:=(hV.keep (fun g hg=>dc.block g hg.2) dc.size).mono (fun g hg=>⟨hg.1,by rw[eT];exact hg.2⟩);clear eT dc hV hV3 Tp;generalize(w2.alloc (.cells #[.int .u8 0,.int .u64 0,.string ⟨#[]⟩,.slice none 0 0,.slice none 0 0] 78))=w3 at*;refine zc (zm (v:=.agg #[.int .u8 (x.kind:Int),.int .u64 (x.n:Int),.string (str x.s),.slice h1.A1 x.keys.length h1.c1,.slice h1.A2 x.list.length h1.c2]) (vs:=[.int .u8 (x.kind:Int),.int .u64 (x.n:Int),.string (str x.s),.slice h1.A1 x.keys.length h1.c1,.slice h1.A2 x.list.length h1.c2]) rfl rfl rfl rfl hz rfl Wj Wz WQ #[.int .u8 (x.kind:Int),.int .u64 (x.n:Int),.string (str x.s),.slice h1.A1 x.keys.length h1.c1,.slice h1.A2 x.list.length h1.c2] Wz ?_);intro w4 eX Bb _;have dK:=bX.grown Bb (sne Wq);have rU:=mp.grown Bb (sne Wq);have cV:=cl.grown Bb (by have:=hz.lt;omega) Wx;have eR:=BO.grown bI Bb (fun g hg=>by injection hg with hg;exact⟨by omega,.inr (.inr Wq)⟩);have wl:=Mu.keep (fun g hg=>Bb.block g (by have:=hz.lt;omega) (sne Wq)) Bb.size;clear hz bX mp cl BO Mu Bb;have x0:=eX.c0;have x1:=eX.c1;have x2:=eX.c2;have x3:=eX.c3;have x4:=eX.c4
 go_wp2_with(with_reducible refine h_B ?_)
 first
 | have qq3j:=qq3j
   refine zc (zm (v:=.slice A2 (xM l).length c2) (vs:=[.slice A2 (xM l).length c2]) rfl rfl rfl rfl rU rfl Wj Wz wX #[.bool is,.int .u64 0,.string ⟨#[]⟩,.int .u32 0,.string ⟨#[]⟩,.string ⟨#[]⟩,.slice A2 (xM l).length c2,.int .u8 0,.int .u64 0,.string ⟨#[]⟩,.slice none 0 0,.slice none 0 0] Wz ?_)
 | have qq3i:=qq3i
   refine zc (zm (v:=.agg #[.int .u32 (x.fmt:Int),.string (str x.glob),.string (str x.bran)]) (vs:=[.int .u32 (x.fmt:Int),.string (str x.glob),.string (str x.bran)]) rfl rfl rfl rfl rU rfl Wj Wz mj #[.bool is,.int .u64 0,.string ⟨#[]⟩,.int .u32 (x.fmt:Int),.string (str x.glob),.string (str x.bran),.slice none 0 0,.int .u8 0,.int .u64 0,.string ⟨#[]⟩,.slice none 0 0,.slice none 0 0] Wz ?_)
 | refine zc (zm (v:=.agg #[.int .u8 (x.kind:Int),.int .u64 (x.n:Int),.string (str x.s),.slice h1.A1 x.keys.length h1.c1,.slice h1.A2 x.list.length h1.c2]) (vs:=[.int .u8 (x.kind:Int),.int .u64 (x.n:Int),.string (str x.s),.slice h1.A1 x.keys.length h1.c1,.slice h1.A2 x.list.length h1.c2]) rfl rfl rfl rfl rU rfl Wj Wz WQ #[.bool is,.int .u64 0,.string ⟨#[]⟩,.int .u32 0,.string ⟨#[]⟩,.string ⟨#[]⟩,.slice none 0 0,.int .u8 (x.kind:Int),.int .u64 (x.n:Int),.string (str x.s),.slice h1.A1 x.keys.length h1.c1,.slice h1.A2 x.list.length h1.c2] Wz ?_)
 intro w5 lD bc _;have cH:=dK.grown bc (sne Wq);have dv:=cV.grown bc (by have:=rU.lt;omega) Wx;have Bt:=eR.grown bI bc nX
 first
 | have qq3j:=qq3j
   have ct:OwnS w5 w.heap.size A2 (xM l).length c2 (xM l):=zk Bv bc (fun g hg e=>by injection e with e;have:=(Bv.blk_lt hg).1;omega)
   clear dK rU cV eR Bv bc
 | have qq3i:=qq3i
   have tD:=eX.lt;have GF:=bc.size
   clear eX dK rU cV eR bc x0 x1 x2
 | have Dt:=wl.keep (fun g hg=>bc.block g (by have:=eX.lt;omega) (sne Wq)) bc.size
   have tD:=eX.lt;have GF:=bc.size;clear eX dK rU cV eR wl bc x0 x1 x2 x3 x4
 have tv:MRd w5 B rb l bad:=⟨A,m,c,cH,dv,hm⟩
 cases br
 ·have dd:bad=false∧er=0:=by
   have:=oh.out.symm;simpa using this
  obtain⟨dd,oW⟩:=dd;subst dd oW;have ip:=Jl tv hB n cX;go_wp2_with(with_reducible refine h_A ?_);refine ip.mono ?_;rintro e w6 ⟨rfl,uh,bm⟩;have uL:=lD.grown bm (sne Wq);have gj:=Bt.grown bI bm Uj;first|done|(have qq3j:=qq3j;have bS:=zk ct bm (fun g hg e=>by injection e with e;have:=(ct.blk_lt hg).1;omega))|(have qq3i:=qq3i)|(have di:RV w6 (FN w.heap.size w6) x h1:=(Dt.keep (fun g hg=>bm.block g Wq (sne Wq)) bm.size).mono (fun g hg=>⟨hg.1,by have:=bm.size;omega⟩))
  go_wp2_with(with_reducible refine h_A ?_);go_end0;have e2:=oI.out;simp at e2;rw[e2];first|(have qq3j:=qq3j;exact⟨A2,c2,⟨rfl,uL,uh,gj⟩,bS⟩)|(have qq3i:=qq3i;exact⟨rfl,uL,uh,gj⟩)|(exact⟨h1,⟨rfl,uL,uh,gj⟩,di⟩)
 have dd:bad=true∨er≠0:=by
  have:=oh.out.symm;simpa using this
 first|(have qq3j:=qq3j;have ip:=ZR tv hB (n:Int) (er:Int) (dd.imp id (fun h=>by omega)))|(have qq3i:=qq3i;have ip:=ZR tv hB (n:Int) (er:Int) (dd.imp id (fun h=>by omega)))|(have ip:=ZR tv hB (n:Int) er dd)
 go_wp2_with(with_reducible refine h_A ?_);refine ip.mono ?_;rintro e w6 ⟨rfl,uh,bm⟩;have uL:=lD.grown bm (sne Wq);have gj:=Bt.grown bI bm Uj;first|done|(have qq3j:=qq3j;have bS:=zk ct bm (fun g hg e=>by injection e with e;have:=(ct.blk_lt hg).1;omega))|(have qq3i:=qq3i)|(have di:RV w6 (FN w.heap.size w6) x h1:=(Dt.keep (fun g hg=>bm.block g Wq (sne Wq)) bm.size).mono (fun g hg=>⟨hg.1,by have:=bm.size;omega⟩))
 go_wp2_with(with_reducible refine h_A ?_);go_end0;have e2:lr=l:=by rw[oI.out,←oh.out,if_pos rfl]
 rw[e2]
 first|(have qq3j:=qq3j;exact⟨A2,c2,⟨rfl,uL,uh,gj⟩,bS⟩)|(have qq3i:=qq3i;exact⟨rfl,uL,uh,gj⟩)|(exact⟨h1,⟨rfl,uL,uh,gj⟩,di⟩)):p:=h
theorem Zn_(h:p:=by
 have fE:0<w.heap.size:=he.lt;have nh:=hb.lt;have c0:=hb.c0;have c2:=hb.c2;have bR:=qD lb 0 gp w c0 c2;have tN:=kX (off:=5) w _ hb (by simp[lk0]);first|(have qq3w:=qq3w;have dr:=zh amxB)|(have dr:=zh hdrB)
 go_enter func12,ntmps12;go_wp2_with(with_reducible refine h_B ?_);refine bR.mono ?_;rintro e w1 ⟨rfl,rfl⟩;clear bR;go_wp2_with(with_reducible refine h_B ?_);refine tN.mono ?_;rintro e w1 ⟨rfl,bL,bM,cq⟩;clear tN c0 c2;have Fd:=Lib.hid cq;clear cq;replace bL:Box w1 lb 61 #[.int .u8 0,.slice none 0 0,.pointer (some ⟨gp,0,none⟩),.int .u64 255,.int .u64 4096,.pointer none,.slice none 0 0,.slice none 0 0]:=bL;have c1:=bL.c1;go_wp2_with(with_reducible refine h_B ?_);refine zc (xx rfl rfl rfl rfl bL (j:=7) (v:=.slice none 0 0) rfl Wj Wz ?_);intro w2 bE Hm et;have Mo:=Lib.hid et;clear et c1;replace bE:Box w2 lb 61 #[.int .u8 0,.slice none 0 0,.pointer (some ⟨gp,0,none⟩),.int .u64 255,.int .u64 4096,.pointer none,.slice none 0 0,.slice none 0 0]:=bE;have c1:=bE.c1;go_wp2_with(with_reducible refine h_B ?_);refine zc (jB (base:=w2.heap.size) slB underlying9 rfl rfl rfl rfl (Own.none_ w2 w2.heap.size 5 1) WJ (Nat.le_refl _) ?_);intro RA rc w3 eN H7 mh;have bX:=bE.grown H7 zAd;go_wp2_with(with_reducible refine h_B ?_);first|(have qq3w:=qq3w;refine zc (xx rfl rfl rfl rfl bX (j:=1) (v:=.slice RA 3 rc) rfl Wj Wz ?_))|(refine zc (xx rfl rfl rfl rfl bX (j:=1) (v:=.slice RA 8 rc) rfl Wj Wz ?_))
 intro w4 dK Bb eX;have HZ4:=Lib.hid eX;clear eX c1;first|(have qq3w:=qq3w;replace dK:Box w4 lb 61 #[.int .u8 0,.slice RA 3 rc,.pointer (some ⟨gp,0,none⟩),.int .u64 255,.int .u64 4096,.pointer none,.slice none 0 0,.slice none 0 0]:=dK)|(replace dK:Box w4 lb 61 #[.int .u8 0,.slice RA 8 rc,.pointer (some ⟨gp,0,none⟩),.int .u64 255,.int .u64 4096,.pointer none,.slice none 0 0,.slice none 0 0]:=dK)
 have Fq:blk RA≠some lb:=fun e=>by have:=(eN.blk_lt e).1;have:=Fd.out;have:=Mo.out;omega
 have so:=zk eN Bb (fun k hk e=>Fq zAa);have eR:KeepF (fun k=>k=lb) w w4:=(((KeepF.grown (F:=fun k=>k=lb) bM (fun k hk=>.inl uj)).trans (.grown (F:=fun k=>k=lb) Hm (fun k hk=>.inl uj)) (fun k hk=>.inl hk)).trans (.grown (F:=fun k=>k=lb) H7 zAb) (fun k hk=>.inl hk)).trans (.grown (F:=fun k=>k=lb) Bb (fun k hk=>.inl uj)) (fun k hk=>.inl hk);have CG:MEnv w4:=he.onK eR fB;first|(have qq3w:=qq3w;have cV:RdB w4 w4.heap.size RA 3 rc amxB:=so.rd)|(have cV:RdB w4 w4.heap.size RA 8 rc hdrB:=so.rd)
 have po:w.heap.size≤w4.heap.size:=eR.1;have RY:=cV.max;have MU:rc-8≤maxLen:=by omega
 have c0:=dK.c0
 first
 | have qq3w:=qq3w
   have eP:=Z8 lb 4096 w.heap.size 0 0 3 rc w4.heap.size _ _ _ (.pointer none) RA none [] amxB w4 CG dK cV (Nat.le_refl _) Wq (.inl rfl) (Own.none_ w4 w.heap.size 5 1) zAd po Wq Wq fB fE WJ
 | have eP:=Zr lb 4096 w.heap.size 0 0 8 rc w4.heap.size _ _ _ (.pointer none) RA none [] hdrB w4 CG dK cV (Nat.le_refl _) Wq (.inl rfl) (Own.none_ w4 w.heap.size 5 1) zAd po Wq Wq fB fE rfl
 clear bL bE bX eN so cV bM Hm H7 Bb;go_wp2_with(with_reducible refine h_B ?_);refine eP.mono ?_
 first
 | have qq3w:=qq3w
   rintro e w6 ⟨rfl,⟨A2,c2,cJ,lX,mV,tk⟩,Bt⟩;clear eP c0;replace cJ:Box w6 lb 61 #[.int .u8 5,.slice RA 3 rc,.pointer (some ⟨gp,0,none⟩),.int .u64 255,.int .u64 4096,bPtr lb 5,.slice A2 hdrB.length c2,.slice none 0 0]:=cJ;replace lX:Own w6 w.heap.size 5 1 A2 hdrB.length c2 (hdrB.map u8v):=lX;obtain⟨OUT,lC⟩:∃o,o=hdrB:=⟨_,rfl⟩
   rw[←lC]at cJ lX
 | rintro e w5 ⟨rfl,_,⟨A2,c2,cH,gA,mV,tk⟩,Bt⟩
   clear eP;replace cH:Box w5 lb 61 #[.int .u8 1,.slice (cutA RA 1 8 rc) 0 (rc-8),.pointer (some ⟨gp,0,none⟩),.int .u64 255,.int .u64 4096,bPtr lb 5,.slice A2 (hdrB++ctlB 4096 startB).length c2,.slice none 0 0]:=cH;replace gA:Own w5 w.heap.size 5 1 A2 (hdrB++ctlB 4096 startB).length c2 ((hdrB++ctlB 4096 startB).map u8v):=gA;(obtain⟨OUT,lC⟩:∃o,o=hdrB++ctlB 4096 startB:=⟨_,rfl⟩);rw[←lC]at cH gA
 have uP:=Lib.hid lC;clear lC
 first
 | have qq3w:=qq3w
   have c5:=cJ.c0;have tP:KeepF (fun k=>k=lb) w w6:=eR.trans Bt (fun k hk=>by rcases hk with hk|hk;exact .inl hk;cases hk)
   clear Bt eR
 | have nP:=XG lb 0 (rc-8) _ _ _ _ _ _ _ (cutA RA 1 8 rc) [] w5 cH (Rd.nil _ _ _ _ MU _) Wq WJ
   have c5:=cH.c0;clear c0;go_wp2_with(with_reducible refine h_B ?_);refine nP.mono ?_;rintro e w6 ⟨rfl,cJ,gj⟩;clear nP c5 cH;have lX:=zy gA gj (fun k hk e=>mV (by rw[hk,e]));have tP:KeepF (fun k=>k=lb) w w6:=(eR.trans Bt (fun k hk=>by rcases hk with hk|hk;exact .inl hk;cases hk)).trans gj (fun k hk=>.inl hk);clear gA Bt gj eR
 go_wp2
 first
 | have qq3w:=qq3w
   refine zt (fun W:World=>Box W lb 61 #[.int .u8 5,.slice RA 3 rc,.pointer (some ⟨gp,0,none⟩),.int .u64 255,.int .u64 4096,bPtr lb 5,.slice A2 OUT.length c2,.slice none 0 0]) Wj ?_
   have hS:Box w6.drew lb 61 #[.int .u8 5,.slice RA 3 rc,.pointer (some ⟨gp,0,none⟩),.int .u64 255,.int .u64 4096,bPtr lb 5,.slice A2 OUT.length c2,.slice none 0 0]:=cJ
 | refine zt (fun W:World=>Box W lb 61 #[.int .u8 1,.slice (cutA RA 1 8 rc) 0 0,.pointer (some ⟨gp,0,none⟩),.int .u64 255,.int .u64 4096,bPtr lb 5,.slice A2 OUT.length c2,.slice none 0 0]) Wj ?_
   have hS:Box w6.drew lb 61 #[.int .u8 1,.slice (cutA RA 1 8 rc) 0 0,.pointer (some ⟨gp,0,none⟩),.int .u64 255,.int .u64 4096,bPtr lb 5,.slice A2 OUT.length c2,.slice none 0 0]:=cJ
 have lE:Own w6.drew w.heap.size 5 1 A2 OUT.length c2 (OUT.map u8v):=lX;have ic:KeepF (fun k=>k=lb) w w6.drew:=tP.trans (KeepF.below (F:=fun k=>k=lb) (za (Below.refl _ _) 1)) (fun k hk=>.inl hk);clear cJ lX tP;generalize w6.drew=w7 at*;have uM:=kZ (off:=5) (n:=OUT.length) (c:=c2) w7 _ hS A2 OUT rfl lE;refine rg_t 0 hS ?_;simp only[List.getElem_toArray,List.getElem_cons_zero,Act.put,List.setIfInBounds_toArray,List.set_cons_zero,List.set_cons_succ];refine rg_t 1 hS ?_;simp only[g_S];refine rg_t 2 hS ?_;simp only[g_S];refine rg_t 4 hS ?_;simp only[g_S];refine rg_t 5 hS ?_;simp only[g_S];refine rg_t 6 hS ?_;simp only[g_S];refine ze 7 (v:=?_) rfl Wj Wj Wj hS rfl ?_ ?_;rotate_left
 ·intro wS He;have k0:=He.cell (j:=7) rfl;go_simp;(with_reducible rfl)
 simp only[g_S];refine zj 3 rfl Wj rfl (fun K hK=>?_);go_simp
 (with_reducible refine uM.mono ?_)
 rintro e w8 ⟨rfl,gH⟩;have cI:=zV hS gH mV;refine hK _ _ cI ?_;clear hK K;try simp only[g_S]
 refine rg_t 8 cI ?_;simp only[g_S];refine rg_t 9 cI ?_;simp only[g_S];refine zD Wj ?_;go_wp2_with(with_reducible refine h_B ?_);go_ret2
 exact⟨by rw[←uP.out];rfl,cI.cell (j:=0) rfl,cI.cell (j:=2) rfl,ic.trans gH (fun k hk=>.inr (lE.blk_lt hk).1)⟩):p:=h
theorem Zo_(h:p:=by
 first
 | have qq3x:=qq3x
   have mM:fr=0:=by have:=N6.out;rw[AJ]at this;simpa using this
 | have mM:¬fr=0:=by have:=N6.out;rw[AJ]at this;simpa using this
   have g2:(fr:Int)<(LL:Int):=by omega
 have iE:=Lib.hid fL;clear fL mM;subst AJ;go_upto_region 14 with fail;refine zt (fun W:World=>Box W xb 42 #[.int .u16 (ch:Int),.int .u8 (tr:Int),.slice (some ⟨b,off,none⟩) n c]∧W.cell? ⟨b,off+i*2,none⟩=some (.int .u8 (ty:Int))) Wj ?_;have Bq:Below w.heap.size w wr.drew:=za bO 1;have hS:Box wr.drew xb 42 #[.int .u16 (ch:Int),.int .u8 (tr:Int),.slice (some ⟨b,off,none⟩) n c]∧wr.drew.cell? ⟨b,off+i*2,none⟩=some (.int .u8 (ty:Int)):=⟨hX,dy _ Bq⟩;have lE:OwnF wr.drew (xb+1) A2 N c2 D:=hO;have tp:=hX.lt;clear hX hO bO n7;generalize wr.drew=w7 at*;refine rg_t 0 hS ?_;simp only[List.getElem_toArray,List.getElem_cons_zero,Act.put,List.setIfInBounds_toArray,List.set_cons_zero,List.set_cons_succ];refine rg_t 1 hS ?_;simp only[g_S];refine rg_t 2 hS ?_;simp only[g_S];refine rg_t 3 hS ?_;simp only[g_S];refine rg_t 4 hS ?_;simp only[g_S];refine ze 5 (v:=?_) rfl Wj Wj Wj hS rfl ?_ ?_;rotate_left
 ·intro wS He;have k:=He.1.cell (j:=2) rfl;go_simp;(with_reducible rfl)
 simp only[g_S];refine rg_t 6 hS ?_;simp only[g_S];refine rg_t 7 hS ?_;simp only[g_S];refine rg_t 8 hS ?_;simp only[g_S];refine rg_t 9 hS ?_;simp only[g_S];refine rg_t 10 hS ?_;simp only[g_S];refine rg_t 11 hS ?_;simp only[g_S];refine rg_t 12 hS ?_;simp only[g_S];refine rg_t 13 hS ?_;simp only[g_S];refine rg_t 14 hS ?_;simp only[g_S];refine rg_t 15 hS ?_;simp only[g_S];refine ze 16 (v:=?_) rfl Wj Wj Wj hS rfl ?_ ?_;rotate_left
 ·intro wS He;have k:=He.1.cell (j:=2) rfl;go_simp;(with_reducible rfl)
 simp only[g_S];refine rg_t 17 hS ?_;simp only[g_S];refine rg_t 18 hS ?_;simp only[g_S];refine rg_t 19 hS ?_;simp only[g_S];refine ze 20 (v:=?_) rfl Wj Wj Wj hS rfl ?_ ?_;rotate_left
 ·intro wS He;have k:=He.2;go_simp;(with_reducible rfl)
 simp only[g_S];refine rg_t 21 hS ?_;simp only[g_S];refine ze 22 (v:=?_) rfl Wj Wj Wj hS rfl ?_ ?_;rotate_left
 ·intro wS He;have k:=He.1.cell (j:=1) rfl;go_simp;(with_reducible rfl)
 simp only[g_S];refine rg_t 23 hS ?_;simp only[g_S];refine ze 24 (v:=?_) rfl Wj Wj Wj hS rfl ?_ ?_;rotate_left
 ·intro wS He;have k:=He.1.cell (j:=0) rfl;go_simp;(with_reducible rfl)
 simp only[g_S];refine rg_t 25 hS ?_;simp only[g_S];refine rg_t 26 hS ?_;simp only[g_S];refine rg_t 27 hS ?_;simp only[g_S];refine ze 28 (v:=?_) rfl Wj Wj Wj hS rfl ?_ ?_;rotate_left
 ·intro wS He;rw[qM (x:=.tmp 75) (lo:=some<| .tmp 76) (hi:=some<| .tmp 77) underlying9 (l:=s) (i:=fr) (j:=to_)]<;>first|rfl|omega|exact .inl ⟨rfl,rfl⟩|exact .inr ⟨_,_,rfl,rfl⟩
 simp only[g_S];refine rg_t 29 hS ?_;simp only[g_S];obtain⟨PC,uK⟩:∃q,q=(s.take to_).drop fr:=⟨_,rfl⟩
 rw[←uK];have GG:=Lib.hid uK;clear uK;refine zj 30 rfl Wj rfl (fun K hK=>?_);go_simp;refine hK _ _ ⟨hS.1.alloc _,dy _ (Bq.alloc Bq.size _)⟩ ?_;clear hK K;try simp only[g_S]
 refine zj 31 rfl Wj rfl (fun K hK=>?_);first|(have qq3x:=qq3x;refine jR (W:=w7) yE slF underlying65 rfl rfl rfl rfl (⟨b1,b2,true,fi,ty,tr,ch,PC⟩:Fr) rfl lE Wq Wq (by have:=hS.1.lt;omega) ?_)|(refine jR (W:=w7) yE slF underlying65 rfl rfl rfl rfl (⟨b1,b2,false,fi,ty,tr,ch,PC⟩:Fr) rfl lE Wq Wq (by have:=hS.1.lt;omega) ?_)
 intro A3 c3 w8 Gv H5 Al Et;have cp:=hS.1.grown H5 (fun e=>by have:=(lE.blk_lt e.symm).1;omega);have Be:Below w.heap.size w w8:=Bq.grown H5 Bq.size (fun g hg=>by have:=(lE.blk_lt hg).1;omega);refine hK _ _ ⟨cp,dy _ Be⟩ ?_;have hS:=dy _ Be;clear hK K lE H5 Al Et Bq;try simp only[g_S]
 refine ze 32 (v:=?_) rfl Wj Wj Wj ⟨cp,hS⟩ rfl ?_ ?_;rotate_left
 ·intro wS He;go_simp;(with_reducible rfl)
 simp only[g_S];refine zD Wj ?_
 first
 | have qq3x:=qq3x
   have AF:Hid ((D++ [(⟨b1,b2,true,fi,ty,tr,ch,PC⟩:Fr)]).length=N+1):=Lib.hid (by have:=HD.out;simp;omega)
   have HE:Hid (FS=(D++ [(⟨b1,b2,true,fi,ty,tr,ch,PC⟩:Fr)])++((if fr+M=0∨fr+M<LL then cutN M ⟨b1,b2,decide (fr+M=0),false,ty,tr,ch,[]⟩ (s.drop (fr+M))else [])++T)):=Lib.hid (by
    have h1:=N9.out;have h2:=rF.out;have h0:=iE.out;have su:=p7.out;(have sV:(s.drop fr).length=LL-fr:=by rw[List.length_drop,←h2]);have In:=GG.out;(have Iu:(s.take to_).drop fr=(s.drop fr).take (to_-fr):=by rw[List.drop_take]);rw[HC.out,decide_eq_false (by omega:¬fr+M=0)];by_cases gF:LL-fr≤M
    ·(have tE:to_=LL:=by omega);rw[kO Wq,if_neg Wq,In,Iu,tE,List.take_of_length_le Wq,su,decide_eq_true tE];simp
    ·(have tE:to_=fr+M:=by omega);rw[kP EM Wq,if_pos Wq,In,Iu,tE,su,decide_eq_false Wq,List.drop_drop]
     simp)
 | have AF:Hid ((D++ [(⟨b1,b2,false,fi,ty,tr,ch,PC⟩:Fr)]).length=N+1):=Lib.hid (by have:=HD.out;simp;omega)
   have HE:Hid (FS=(D++ [(⟨b1,b2,false,fi,ty,tr,ch,PC⟩:Fr)])++((if fr+M=0∨fr+M<LL then cutN M ⟨b1,b2,decide (fr+M=0),false,ty,tr,ch,[]⟩ (s.drop (fr+M))else [])++T)):=Lib.hid (by
    have h1:=N9.out;have h2:=rF.out;have h0:=iE.out;have su:=p7.out;(have sV:(s.drop fr).length=LL-fr:=by rw[List.length_drop,←h2]);have In:=GG.out;(have Iu:(s.take to_).drop fr=(s.drop fr).take (to_-fr):=by rw[List.drop_take]);rw[HC.out,decide_eq_false (by omega:¬fr+M=0)];by_cases gF:LL-fr≤M
    ·(have tE:to_=LL:=by omega);rw[kO Wq,if_neg Wq,In,Iu,tE,List.take_of_length_le Wq,su,decide_eq_true tE];simp
    ·(have tE:to_=fr+M:=by omega);rw[kP EM Wq,if_pos Wq,In,Iu,tE,su,decide_eq_false Wq,List.drop_drop]
     simp)
 have uG:N+1≤16388:=by
  have h1:=AF.out;have h2:=congrArg List.length HE.out;have h3:=HM.out;simp only[List.length_append]at h1 h2;omega
 clear HC iE p7 N9 N6 hS rz m9;go_wp2_with(with_reducible refine h_A ?_)
 exact⟨⟨N+1,c3,fr+M,A3,_,rfl,by go_num,by omega,uG,AF,HE,Gv,cp,Be⟩,by simp[RowKit.intOf];omega⟩):p:=h
theorem Zp_(h:p:=by
 first
 | have qq3z:=qq3z
   (obtain⟨rfl,rfl⟩:bf=true∧bl=true:=by simpa using ef);clear ef;go_upto_region 21 with fail;refine zt (fun W:World=>Box W pb 88 #[.map (some mb),.bool false]∧Box W kb 156 #[.int .i64 (f.chan:Int),.int .i64 (f.track:Int)]) Wj ?_
   have hS:Box wa.drew pb 88 #[.map (some mb),.bool false]∧Box wa.drew kb 156 #[.int .i64 (f.chan:Int),.int .i64 (f.track:Int)]:=⟨dz.bp,dz.bk⟩
 | have qq3y:=qq3y
   go_upto_region 23 with fail;refine zt (fun W:World=>Box W pb 88 #[.map (some mb),.bool false]∧Box W kb 156 #[.int .i64 (f.chan:Int),.int .i64 (f.track:Int)]∧Box W qb 158 #[.slice (some ⟨gb,0,none⟩) (L0.length+1) c1,.int .i64 ((SZ:Int)+(f.load.length:Int)),.bool y.first,.bool y.last,.bool y.beg,.bool y.fin,.int .u8 (y.ty:Int),.int .u8 (y.track:Int),.int .u16 (y.chan:Int),.string (str y.load),.bool (!true)]) Wj ?_
   have hS:Box wa.drew pb 88 #[.map (some mb),.bool false]∧Box wa.drew kb 156 #[.int .i64 (f.chan:Int),.int .i64 (f.track:Int)]∧Box wa.drew qb 158 #[.slice (some ⟨gb,0,none⟩) (L0.length+1) c1,.int .i64 ((SZ:Int)+(f.load.length:Int)),.bool y.first,.bool y.last,.bool y.beg,.bool y.fin,.int .u8 (y.ty:Int),.int .u8 (y.track:Int),.int .u16 (y.chan:Int),.string (str y.load),.bool (!true)]:=⟨dz.bp,dz.bk,dz.bq⟩
 | have hnf:(!false)=true:=rfl
   go_upto_region 23 with fail;refine zt (fun W:World=>Box W pb 88 #[.map (some mb),.bool false]∧Box W kb 156 #[.int .i64 (f.chan:Int),.int .i64 (f.track:Int)]∧Box W qb 158 #[.slice (some ⟨gb,0,none⟩) (L0.length+1) c1,.int .i64 ((SZ:Int)+(f.load.length:Int)),.bool y.first,.bool y.last,.bool y.beg,.bool y.fin,.int .u8 (y.ty:Int),.int .u8 (y.track:Int),.int .u16 (y.chan:Int),.string (str y.load),.bool (!false)]) Wj ?_;have hS:Box wa.drew pb 88 #[.map (some mb),.bool false]∧Box wa.drew kb 156 #[.int .i64 (f.chan:Int),.int .i64 (f.track:Int)]∧Box wa.drew qb 158 #[.slice (some ⟨gb,0,none⟩) (L0.length+1) c1,.int .i64 ((SZ:Int)+(f.load.length:Int)),.bool y.first,.bool y.last,.bool y.beg,.bool y.fin,.int .u8 (y.ty:Int),.int .u8 (y.track:Int),.int .u16 (y.chan:Int),.string (str y.load),.bool (!false)]:=⟨dz.bp,dz.bk,dz.bq⟩
 have DC:wa.drew.ownsMap prog 156 rawV mb n D:=sJ;replace dz:=dz.drew;clear sJ dZ f0 f1 f2 f3 f4 f5 f6 f7 dh cz;generalize wa.drew=v1 at*
 first
 | have qq3z:=qq3z
   obtain⟨v2,bv,ct,Dy⟩:=DC.drop gk_keyed underlying86 (vP (a:=f.chan) (b:=f.track) ii (show f.track<65536 by omega)) 0
 | have qq3y:=qq3y
   obtain⟨v2,bv,ct,Dy⟩:=DC.store gk_keyed underlying86 (show n<maxLen by simp[maxLen];omega) (vP (a:=f.chan) (b:=f.track) ii (show f.track<65536 by omega)) (val:=.agg #[.slice (some ⟨gb,0,none⟩) (L0.length+1) c1,.int .i64 ((SZ:Int)+(f.load.length:Int)),.bool y.first,.bool y.last,.bool y.beg,.bool y.fin,.int .u8 (y.ty:Int),.int .u8 (y.track:Int),.int .u16 (y.chan:Int),.string (str y.load),.bool (!true)]) rfl
 | obtain⟨v2,bv,ct,Dy⟩:=DC.store gk_keyed underlying86 (show n<maxLen by simp[maxLen];omega) (vP (a:=f.chan) (b:=f.track) ii (show f.track<65536 by omega)) (val:=.agg #[.slice (some ⟨gb,0,none⟩) (L0.length+1) c1,.int .i64 ((SZ:Int)+(f.load.length:Int)),.bool y.first,.bool y.last,.bool y.beg,.bool y.fin,.int .u8 (y.ty:Int),.int .u8 (y.track:Int),.int .u16 (y.chan:Int),.string (str y.load),.bool (!false)]) rfl
 unfold gkV at bv;have bc:=Dy.grown;refine rg_t 0 hS ?_;simp only[List.getElem_toArray,List.getElem_cons_zero,Act.put,List.setIfInBounds_toArray,List.set_cons_zero,List.set_cons_succ];refine rg_t 1 hS ?_;simp only[g_S];refine rg_t 2 hS ?_;simp only[g_S];refine ze 3 (v:=?_) rfl Wj Wj Wj hS rfl ?_ ?_;rotate_left
 ·intro wS He;have k0:=He.1.cell (j:=0) rfl;go_simp;(with_reducible rfl)
 simp only[g_S];refine ze 4 (v:=?_) rfl Wj Wj Wj hS rfl ?_ ?_
 first
 | done
 | have qq3z:=qq3z
 | rotate_left
   ·intro wS He;have k0:=He.2.1.cell (j:=0) rfl;have k1:=He.2.1.cell (j:=1) rfl;go_simp;(with_reducible rfl)
   simp only[g_S];refine ze 5 (v:=?_) rfl Wj Wj Wj hS rfl ?_ ?_
 rotate_left
 first
 | have qq3z:=qq3z
   ·intro wS He;have k0:=He.2.cell (j:=0) rfl;have k1:=He.2.cell (j:=1) rfl;go_simp;(with_reducible rfl)
 | ·intro wS He;have k:=He.2.2;have q0:=k.cell (j:=0) rfl;have q1:=k.cell (j:=1) rfl;have q2:=k.cell (j:=2) rfl;have q3:=k.cell (j:=3) rfl;have q4:=k.cell (j:=4) rfl;have q5:=k.cell (j:=5) rfl;have q6:=k.cell (j:=6) rfl;have q7:=k.cell (j:=7) rfl;have q8:=k.cell (j:=8) rfl;have q9:=k.cell (j:=9) rfl;have CK:=k.cell (j:=10) rfl;go_simp;(with_reducible rfl)
 simp only[g_S]
 first
 | have qq3z:=qq3z
   refine zj 5 rfl Wj rfl (fun K hK=>?_)
   refine Kw rfl rfl rfl rfl bv ?_
 | refine zj 6 rfl Wj rfl (fun K hK=>?_)
   refine vO rfl rfl rfl rfl bv ?_
 have BL:=hS.1.grown bc (fun e=>hne NJ)
 first
 | have qq3z:=qq3z
   have bY:=hS.2.grown bc (fun e=>pz NJ)
 | have bY:=hS.2.1.grown bc (fun e=>pz NJ)
   have pB:=hS.2.2.grown bc (fun e=>OE NJ)
 have dv:=dz.br.grown bc (fun e=>ny NJ);unfold asZ at dv
 first
 | have qq3z:=qq3z
   have pg:=dz.bf.grown bc (fun e=>Cq NJ);unfold frV at pg
   have pI:=dz.bq.grown bc (fun e=>OE NJ)
 | skip
 have oE:=zk dz.row bc (fun k hk e=>bN ((show some gb=some k from hk).trans e.symm));have Bt:=(dz.keep.weak (G:=fun k=>k=mb∨blk H.A=some k) (fun k hk=>.inl (.inr hk))).trans (.grown (F:=fun k=>k=mb) bc (fun k hk=>.inl uj)) (fun k hk=>.inl (.inl hk))
 first
 | have qq3z:=qq3z
   refine hK _ _ ⟨BL,bY⟩ ?_
   clear hK K hS bY dz bc Dy bv DC
 | refine hK _ _ ⟨BL,bY,pB⟩ ?_
   clear hK K hS bY pB dz bc Dy bv DC
 try simp only[g_S]
 refine zD Wj ?_
 first
 | have qq3z:=qq3z
   have f5:=pg.c5;have f6:=pg.c6
   have q0:=pI.c0
 | skip
 go_wp2_with(with_reducible refine h_B ?_)
 first
 | have qq3z:=qq3z
   refine zc (zm (v:=.agg #[.int .u16 (f.chan:Int),.int .u8 (f.track:Int),.slice (some ⟨gb,0,none⟩) (L0.length+1) c1]) (vs:=[.int .u16 (f.chan:Int),.int .u8 (f.track:Int),.slice (some ⟨gb,0,none⟩) (L0.length+1) c1]) rfl rfl rfl rfl dv rfl Wj Wz WZ #[.int .u16 (f.chan:Int),.int .u8 (f.track:Int),.slice (some ⟨gb,0,none⟩) (L0.length+1) c1] Wz ?_)
 | refine zc (zm (v:=.agg #[.int .u16 0,.int .u8 0,.slice none 0 0]) (vs:=[.int .u16 0,.int .u8 0,.slice none 0 0]) rfl rfl rfl rfl dv rfl Wj Wz WZ #[.int .u16 0,.int .u8 0,.slice none 0 0] Wz ?_)
 intro wz ns BP en;have eE:=BL.grown BP (sne Wq);have sG:=Bt.trans (.grown (F:=fun k=>k=rb) BP (fun k hk=>.inl uj)) (fun k hk=>.inr (by rw[hk];exact lz));have Gk:=yj ct (BP.block mb (by have:=ct.lt;omega) (by intro e;injection e with e;exact ny e.symm))
 have oN:=zk oE BP (fun k hk e=>by
  injection e with e
  have h0:=r4 k hk;rcases h0 with h|h
  ·have:=kr hm HF.out sf (fun e=>(DN.out e).1) (fun e=>(wN.out e).1) h;omega
  ·exact mN (by injection hk with hk;exact hk.trans e.symm))
 first
 | done
 | have qq3z:=qq3z
 | have qq3y:=qq3y
   have hX:(#[.slice (some ⟨gb,0,none⟩) (L0.length+1) c1,.int .i64 ((SZ:Int)+(f.load.length:Int)),.bool y.first,.bool y.last,.bool y.beg,.bool y.fin,.int .u8 (y.ty:Int),.int .u8 (y.track:Int),.int .u16 (y.chan:Int),.string (str y.load),.bool (!true)]:Array Value)=jM ⟨some ⟨gb,0,none⟩,L0.length+1,c1⟩ (zI (g.op f.chan f.track++ [f])) y (kA (g.op f.chan f.track++ [f])):=by
    unfold jM Hd.v;rw[Me.out,LV.out];simp
   rw[hX]at Gk
 | have hX:(#[.slice (some ⟨gb,0,none⟩) (L0.length+1) c1,.int .i64 ((SZ:Int)+(f.load.length:Int)),.bool y.first,.bool y.last,.bool y.beg,.bool y.fin,.int .u8 (y.ty:Int),.int .u8 (y.track:Int),.int .u16 (y.chan:Int),.string (str y.load),.bool (!false)]:Array Value)=jM ⟨some ⟨gb,0,none⟩,L0.length+1,c1⟩ (zI (g.op f.chan f.track++ [f])) y (kA (g.op f.chan f.track++ [f])):=by
    unfold jM Hd.v;rw[Me.out,LV.out];simp
   rw[hX]at Gk
 go_wp2_with(with_reducible refine h_B ?_)
 first
 | have qq3z:=qq3z
   exact zv rfl ns rfl rfl rfl underlying42 rfl Wj rfl (zaP hm hF hne pC hlt HF.out sf GP.out tW.out (by rw[dm.out];rfl) (fun e=>(DN.out e).1) (fun e=>(wN.out e).1) sG eE Gk (by rw[OG.out];simp) oN r4 (fun _ _ _=>.inr trivial))
 | exact zv rfl ns rfl rfl rfl underlying42 rfl Wj rfl (KI hm hF hne pC hlt HF.out sf GP.out tW.out (by rw[dm.out];rfl) (fun e=>(DN.out e).1) (fun e=>(wN.out e).1) sG eE Gk TE.out oN r4)):p:=h
theorem Zq_(h:p:=by
 have dg:=ha.n;have nE:=fun W=>run_makeMap (P:=prog) 186 W
 obtain⟨ab,rb,v0,dZ,eB,bh,bo,bV,Hr⟩:=qS w #[.bool a.is,.int .u64 (a.n:Int),.string (str a.s),.int .u32 (a.x.fmt:Int),.string (str a.x.glob),.string (str a.x.bran),.slice h.A a.q.length h.c,.int .u8 (a.v.kind:Int),.int .u64 (a.v.n:Int),.string (str a.v.s),.slice h.h.A1 a.v.keys.length h.h.c1,.slice h.h.A2 a.v.list.length h.h.c2] #[.bool true,.int .u64 0,.string ⟨#[]⟩,.int .u32 0,.string ⟨#[]⟩,.string ⟨#[]⟩,.slice none 0 0,.int .u8 0,.int .u64 0,.string ⟨#[]⟩,.slice none 0 0,.slice none 0 0] 80;have Br:w.heap.size≤ab:=by omega
 have ui:ab<rb:=by omega
 have Bc:∀g,blk A=some g→g<ab:=fun g hg=>by have:=(Hl.blk_lt hg).2;omega
 have eY:∀g,blk A=some g→base≤g:=fun g hg=>(Hl.blk_lt hg).1
 have H4:=zi Hl Hr;have HU:Below w.heap.size w v0:=Hr;have cg:=bV.lt;have fo:=cg;have cX:l.length=n:=RdB.length Hl.rd;unfold agV;have HA:=Lib.hid ha;clear ha;go_enter func71,ntmps71;go_upto_region 2 with fail;rw[←eB,←dZ,←bh];clear dZ eB bh Hl Hr;have Hp:=World.ownsMap_made v0 prog 5 (plainElem (H:=Unit) prog 3);have bo:=bo.alloc (.map #[] 0);have bV:=bV.alloc (.map #[] 0);have H4:=H4.alloc (.map #[] 0);have HU:=HU.alloc HU.size (.map #[] 0);go_wp2_with(with_reducible refine h_M ?_);obtain⟨mb,cx⟩:∃m,m=v0.heap.size:=⟨_,rfl⟩
 rw[←cx]at Hp cg ⊢;clear cx nE;generalize(v0.alloc (.map #[] 0))=v1 at*;refine zc (zl (H:=Unit) _ rfl _ _ _ 186 rfl 5 3 zz underlying186 (plainElem (H:=Unit) prog 3) _ _ _ rfl Hp WX _ _ (.int .u8 110) rfl rfl (Maps.keyOf_int_mk underlying5 WJ) (.lit (.int .i64 1)) [] (plainElem_int underlying3 WJ) ?_);intro v2 Hs bN;have bo:=bo.grown bN (sne Wq);have bV:=bV.grown bN (sne Wq);have H4:=zk H4 bN uz;have HU:=HU.grown bN HU.size Wx;clear Hp bN;have Hp:=Hs;clear Hs;go_wp2_with(with_reducible refine h_M ?_);refine zc (zl (H:=Unit) _ rfl _ _ _ 186 rfl 5 3 zz underlying186 (plainElem (H:=Unit) prog 3) _ _ _ rfl Hp WX _ _ (.int .u8 119) rfl rfl (Maps.keyOf_int_mk underlying5 WJ) (.lit (.int .i64 2)) [] (plainElem_int underlying3 WJ) ?_);intro v3 Hs bN;have bo:=bo.grown bN (sne Wq);have bV:=bV.grown bN (sne Wq);have H4:=zk H4 bN uz;have HU:=HU.grown bN HU.size Wx;clear Hp bN;have Hp:=Hs;clear Hs;go_wp2_with(with_reducible refine h_M ?_);refine zc (zl (H:=Unit) _ rfl _ _ _ 186 rfl 5 3 zz underlying186 (plainElem (H:=Unit) prog 3) _ _ _ rfl Hp WX _ _ (.int .u8 100) rfl rfl (Maps.keyOf_int_mk underlying5 WJ) (.lit (.int .i64 4)) [] (plainElem_int underlying3 WJ) ?_);intro v4 Hs bN;have bo:=bo.grown bN (sne Wq);have bV:=bV.grown bN (sne Wq);have H4:=zk H4 bN uz;have HU:=HU.grown bN HU.size Wx;clear Hp bN
 first
 | have qq4h:=qq4h
   obtain⟨cc,bv,fd,_⟩:=Hs.lookup_int (t:=186) zz underlying186 underlying3 (zeroValue3 _) (key:=.int .u8 100) (kl:=.int .u8 100) (Maps.keyOf_int_mk underlying5 WJ)
   have dx:DataW.lit (H:=Unit) (.int .i64 4)= .lit (.int .i64 cc):=Eq.trans Wj fd
 | have qq4g:=qq4g
   obtain⟨cc,bv,fd,_⟩:=Hs.lookup_int (t:=186) zz underlying186 underlying3 (zeroValue3 _) (key:=.int .u8 119) (kl:=.int .u8 119) (Maps.keyOf_int_mk underlying5 WJ)
   have dx:DataW.lit (H:=Unit) (.int .i64 2)= .lit (.int .i64 cc):=Eq.trans Wj fd
 | obtain⟨cc,bv,fd,_⟩:=Hs.lookup_int (t:=186) zz underlying186 underlying3 (zeroValue3 _) (key:=.int .u8 110) (kl:=.int .u8 110) (Maps.keyOf_int_mk underlying5 WJ)
   have dx:DataW.lit (H:=Unit) (.int .i64 1)= .lit (.int .i64 cc):=Eq.trans Wj fd
 injection dx with dx
 injection dx with _ dx
 subst dx;clear fd;have x0:=bo.c0;have x1:=bo.c1;have x2:=bo.c2;have x3:=bo.c3;have x4:=bo.c4;have x5:=bo.c5;have x6:=bo.c6;have x7:=bo.c7;have x8:=bo.c8;have x9:=bo.c9;have xA:=bo.c10;have xB:=bo.c11;go_wp2_with(with_reducible refine h_M ?_);go_ret2
 exact⟨none,_,0,rfl,HU.mono Hf,⟨HU.size,fun g hg _=>HU.block g hg⟩,fun e=>by cases e⟩):p:=h
theorem Z4h_(h:p:=by
 go_upto_region 1 with fail;rw[←Hg,←Hi];clear Hg Hi;go_wp2_with(with_reducible refine h_A ?_);refine hd.mono ?_;rintro e w2 ⟨rfl,Hc⟩;have hc:=HC.out w2 Hc;have Hk:=hX.below Hc;clear c0 c1 c2 c3 c4 hX;have c0:=Hk.c0;have c1:=Hk.c1;have c2:=Hk.c2;have c3:=Hk.c3;have c4:=Hk.c4;clear hd HC;go_wp2_with(with_reducible refine h_A ?_);refine hc.mono ?_;rintro e w3 ⟨rfl,Hh⟩;have Bn:=Hc.trans (Hh.mono Hc.size);have hm:=HM.out w3 Bn;have bU:=Hk.below Hh;clear hc Hh c0 c1 c2 c3 c4 HM;have c0:=bU.c0;have c1:=bU.c1;have c2:=bU.c2;have c3:=bU.c3;have c4:=bU.c4;go_wp2_with(with_reducible refine h_A ?_);refine hm.mono ?_;rintro e w4 ⟨rfl,Hn⟩;go_wp2_with(with_reducible refine h_A ?_);go_ret
 exact⟨rfl,Ha.trans ((Bn.trans (Hn.mono Bn.size)).mono Ha.size)⟩):p:=h
theorem Z5l_(h:p:=by
 rintro e w2 ⟨rfl,Hc⟩
 exact Z6q_):p:=h
theorem Zr_(h:p:=by
 obtain⟨xb,w1,Hg,Hi,hX,Ha⟩:=zg w #[.int .u8 (v.kind:Int),.int .u64 (v.n:Int),.string (str v.s),.slice h.A1 v.keys.length h.c1,.slice h.A2 v.list.length h.c2] 78;have dF:=hv.up Ha
 first
 | have qq4i:=qq4i
   have hd:=Vv v h 6 w1 dF Wq trivial;(have hc:=fun W (hW:Below w1.heap.size w1 W)=>Vu v h 200 W (dF.up hW) Wq Wq);have hm:=fun W (hW:Below w1.heap.size w1 W)=>zbz v h W (dF.up hW)
   unfold DeepR' at hd
 | have hd:=za7 v h 6 w1 dF Wq
   (have hc:=fun W (hW:Below w1.heap.size w1 W)=>K7 v h 200 W (dF.up hW) Wq Wq);(have hm:=fun W (hW:Below w1.heap.size w1 W)=>zcp v h W (dF.up hW) ((hT.on Ha).on hW));unfold Qv at hd
 unfold CntR at hc;unfold MayR at hm;unfold vlV at hd hc hm ⊢;obtain⟨r,hr⟩:∃r,r=errV v:=⟨_,rfl⟩
 rw[←hr];unfold errV at hr;generalize xJ 6 v=d at*;generalize cntV v 200=q at*;generalize mayV zJ v=y at*;have c0:=hX.c0;have c1:=hX.c1;have c2:=hX.c2;have c3:=hX.c3;have c4:=hX.c4;have HC:=Lib.hid hc;have HM:=Lib.hid hm;first|(have qq4i:=qq4i;clear hv dF hc hm)|(clear hv hT dF hc hm)
 rw[show((6:Nat):Int)=6 from rfl]at hd
 cases d
 ·by_cases hq:q<0
  ·(obtain rfl:r=3:=by rw[hr];simp[hq]);clear hr HM;(first|(have qq4i:=qq4i;go_enter func117,ntmps117)|(go_enter func123,ntmps123));go_upto_region 1 with fail;rw[←Hg,←Hi];clear Hg Hi;go_wp2_with(with_reducible refine h_A ?_);refine hd.mono ?_;rintro e w2 ⟨rfl,Hc⟩;have hc:=HC.out w2 Hc;have Hk:=hX.below Hc;clear c0 c1 c2 c3 c4 hX;have c0:=Hk.c0;have c1:=Hk.c1;have c2:=Hk.c2;have c3:=Hk.c3;have c4:=Hk.c4;clear hd HC;go_wp2_with(with_reducible refine h_A ?_);refine hc.mono ?_;rintro e w3 ⟨rfl,Hh⟩;go_wp2_with(with_reducible refine h_A ?_);go_ret;exact⟨rfl,Ha.trans ((Hc.mono Ha.size).trans (Hh.mono (Nat.le_trans Ha.size Hc.size)))⟩
  cases y
  ·(obtain rfl:r=50:=by rw[hr];simp[hq]);clear hr;(first|(have qq4i:=qq4i;go_enter func117,ntmps117)|(go_enter func123,ntmps123));exact Z4h_
  obtain rfl:r=0:=by rw[hr];simp[hq]
  clear hr;first|(have qq4i:=qq4i;go_enter func117,ntmps117)|(go_enter func123,ntmps123)
  exact Z4h_
 obtain rfl:r=51:=by rw[hr];simp
 clear hr HC HM;first|(have qq4i:=qq4i;go_enter func117,ntmps117)|(go_enter func123,ntmps123)
 go_upto_region 1 with fail;rw[←Hg,←Hi];clear Hg Hi;go_wp2_with(with_reducible refine h_A ?_);refine hd.mono ?_
 exact Z5l_):p:=h
theorem Zs_(h:p:=by
 by_cases hl:m.args.length=kd.length
 ·have hs:m.sync=true∧m.cls≤2:=by
   simp only[hl,decide_true,Bool.and_true,Bool.true_and,Bool.not_eq_true',Bool.not_eq_true,Bool.not_eq_false']at hf;simpa using hf
  first
  | have qq4o:=qq4o
    obtain⟨hs,bD⟩:=hs;have hd:decide (m.cls≤2)=true:=by simpa using bD
    simp only[hd]at fh
  | obtain⟨hs,dN⟩:=hs
  have g1:((m.args.length:Int)!=((str kd).size:Int))=false:=by rw[dr,hl];simp
  have g2:((m.args.length:Int)!=(kd.length:Int))=false:=by rw[hl];simp
  first
  | have qq4o:=qq4o
    clear hf hl bD hd
  | have g3:(m.cls:Int)≤2:=by omega
    clear hf hl dN
  generalize m.sync=sy at*;subst hs;first|(have qq4o:=qq4o;go_enter func50,ntmps50)|(go_enter func43,ntmps43)
  go_upto_region 1 with fail;rw[←Hg,←Hi];clear Hg Hi;go_wp2_with(with_reducible refine h_A ?_);first|(have qq4o:=qq4o;refine gf.mono ?_)|(refine eU.mono ?_)
  rintro e w2 ⟨rfl,Hc⟩;have Hk:=hX.below Hc
  first
  | have qq4o:=qq4o
    clear c0 c1 c2 c3;have c0:=Hk.c0;have c1:=Hk.c1;have c2:=Hk.c2;have c3:=Hk.c3;go_wp2_with(with_reducible refine h_A ?_);refine(fh _).mono ?_
    (rintro e w3 ⟨rfl,rfl⟩)
  | have H3:=Ha.trans (Hc.mono Ha.size)
    have hz:=Box.new w2 #[.int .u8 0,.int .u8 0,.string ⟨#[]⟩,.string ⟨#[]⟩] 127;have tZ:=Hk.alloc (.cells #[.int .u8 0,.int .u8 0,.string ⟨#[]⟩,.string ⟨#[]⟩] 127);have dc:=H3.alloc H3.size (.cells #[.int .u8 0,.int .u8 0,.string ⟨#[]⟩,.string ⟨#[]⟩] 127);have FE:=Hk.lt;have Du:=H3.size;clear eU x0 x1 x2 x3 hX Ha Hc;go_wp2_with(with_reducible refine h_B ?_);(obtain⟨rb,da⟩:∃g,g=w2.heap.size:=⟨_,rfl⟩);rw[←da]at hz FE Du ⊢;clear da;generalize(w2.alloc (.cells #[.int .u8 0,.int .u8 0,.string ⟨#[]⟩,.string ⟨#[]⟩] 127))=w3 at*;refine zc (zm (v:=.agg #[.int .u8 (rw_c:Int),.int .u8 (rw_k:Int),.string (str rw_n),.string (str kd)]) (vs:=[.int .u8 (rw_c:Int),.int .u8 (rw_k:Int),.string (str rw_n),.string (str kd)]) rfl rfl rfl rfl hz rfl Wj Wz vY #[.int .u8 (rw_c:Int),.int .u8 (rw_k:Int),.string (str rw_n),.string (str kd)] Wz ?_);intro w5 hR bc gR;have BZ:=tZ.grown bc (sne Wq);have bz:=dc.grown bc dc.size Wx;clear hz tZ dc H3 Hk bc gR;have x0:=BZ.c0;have x1:=BZ.c1;have x2:=BZ.c2;have x3:=BZ.c3;have r3:=hR.c3
  go_wp2_with(with_reducible refine h_A ?_);go_ret2;first|(have qq4o:=qq4o;exact⟨none,0,rfl,Own.none_ _ _ _ _,Ha.trans (Hc.mono Ha.size)⟩)|(exact⟨none,0,rfl,Own.none_ _ _ _ _,bz⟩)
 have g1:((m.args.length:Int)!=((str kd).size:Int))=true:=by rw[dr];simp;omega
 have g2:((m.args.length:Int)!=(kd.length:Int))=true:=by simp;omega
 first
 | have qq4o:=qq4o
   clear hf hl fh
   go_enter func50,ntmps50
 | clear hf hl
   go_enter func43,ntmps43
 go_upto_region 1 with fail;rw[←Hg,←Hi];clear Hg Hi;go_wp2_with(with_reducible refine h_A ?_);first|(have qq4o:=qq4o;refine gf.mono ?_)|(refine eU.mono ?_)
 rintro e w2 ⟨rfl,Hc⟩;have Hk:=hX.below Hc
 first
 | have qq4o:=qq4o
   clear c0 c1 c2 c3;have c0:=Hk.c0;have c1:=Hk.c1;have c2:=Hk.c2
   have c3:=Hk.c3
 | have H3:=Ha.trans (Hc.mono Ha.size)
   have hz:=Box.new w2 #[.int .u8 0,.int .u8 0,.string ⟨#[]⟩,.string ⟨#[]⟩] 127;have tZ:=Hk.alloc (.cells #[.int .u8 0,.int .u8 0,.string ⟨#[]⟩,.string ⟨#[]⟩] 127);have dc:=H3.alloc H3.size (.cells #[.int .u8 0,.int .u8 0,.string ⟨#[]⟩,.string ⟨#[]⟩] 127);have FE:=Hk.lt;have Du:=H3.size;clear eU x0 x1 x2 x3 hX Ha Hc;go_wp2_with(with_reducible refine h_B ?_);(obtain⟨rb,da⟩:∃g,g=w2.heap.size:=⟨_,rfl⟩);rw[←da]at hz FE Du ⊢;clear da;generalize(w2.alloc (.cells #[.int .u8 0,.int .u8 0,.string ⟨#[]⟩,.string ⟨#[]⟩] 127))=w3 at*;refine zc (zm (v:=.agg #[.int .u8 (rw_c:Int),.int .u8 (rw_k:Int),.string (str rw_n),.string (str kd)]) (vs:=[.int .u8 (rw_c:Int),.int .u8 (rw_k:Int),.string (str rw_n),.string (str kd)]) rfl rfl rfl rfl hz rfl Wj Wz vY #[.int .u8 (rw_c:Int),.int .u8 (rw_k:Int),.string (str rw_n),.string (str kd)] Wz ?_);intro w5 hR bc gR;have BZ:=tZ.grown bc (sne Wq);have bz:=dc.grown bc dc.size Wx;clear hz tZ dc H3 Hk bc gR;have x0:=BZ.c0;have x1:=BZ.c1;have x2:=BZ.c2;have x3:=BZ.c3;have r3:=hR.c3
 go_wp2_with(with_reducible refine h_A ?_);go_ret2
 first|(have qq4o:=qq4o;exact⟨none,0,rfl,Own.none_ _ _ _ _,Ha.trans (Hc.mono Ha.size)⟩)|(exact⟨none,0,rfl,Own.none_ _ _ _ _,bz⟩)):p:=h
theorem Zt_(h:p:=by
 first
 | have qq4y:=qq4y
   clear z3
 | have qq4x:=qq4x
   go_simp;refine bB _ _ hP ?_;clear bB K z3;try simp only[g_S]
   refine zj 10 rfl Wj rfl (fun K bB=>?_)
 | go_simp
   refine bB _ _ hP ?_;clear bB K z3;(try simp only[g_S]);refine zj 9 rfl Wj rfl (fun K bB=>?_);go_simp;refine pf.mono ?_;rintro e wt ⟨rfl,Bw,Hm⟩;(try clear z3);replace hS:=hS.box Hm Wq;replace hX:=hX.grown Hm (sne Wq);replace hP:=hP.grown Hm (sne Wq);replace bu:=bu.grown hBa Hm UQ;clear hR pf;have hR:=Bw;clear Bw Hm;refine bB _ _ hP ?_;clear bB K;(try simp only[g_S]);refine zj 10 rfl Wj rfl (fun K bB=>?_)
 go_simp;have hM:=Box.new wt #[.string (str ks)] 9;have cw:=(Below.refl wt.heap.size wt).alloc (Nat.le_refl _) (.cells #[.string (str ks)] 9);refine bB _ _ (hP.below cw) ?_;clear bB K;try simp only[g_S]
 obtain⟨mb,cx⟩:∃g,g=wt.heap.size:=⟨_,rfl⟩
 rw[←cx]at hM ⊢;clear cx;replace hS:=hS.below cw;replace hX:=hX.below cw;replace hR:=hR.below cw;replace hP:=hP.below cw;replace bu:=bu.below hBa cw;generalize(wt.alloc (.cells #[.string (str ks)] 9))=wm at*
 first
 | have qq4y:=qq4y
   have z3:=hX.c3;refine zj 4 rfl Wj rfl (fun K bB=>?_);go_simp;refine bB _ _ hP ?_;clear bB K z3
   try simp only[g_S]
 | skip
 have fH:Own _ (xb+1) 9 1 AK KS.length cK (KS.map txV):=hS.kown;refine zj 11 rfl Wj rfl (fun K bB=>?_);refine jL (ops:=#[]) slTx underlying22 rfl rfl rfl fH (vg (n:=1) (sz:=1) hM rfl WJ) nQ Wq Hj mX ?_;intro A4 c4 w6 bS bm eD;have iR:KS.map txV++(#[Value.string (str ks)]:Array Value).toList=(KS++ [ks]).map txV:=by rw[List.map_append];rfl
 rw[iR]at bS;clear iR;have B0:blk A4=blk AK∨∀g,blk A4=some g→_≤g:=eD.imp id uQ
 have bY:=hS.pushK bS bm B0;have Bz:∀g',blk AK=some g'→xb+1≤g'∧a.heap.size≤g':=fun g' Ho=>by have:=(hS.kown.blk_lt Ho).1;omega
 have bA:=hX.grown bm wj;have Bf:=hP.grown bm wj;have bF:=hR.kept bm uJ;have bw:=bu.grown hBa bm wQ;refine bB _ _ Bf ?_;clear bB K hS hX hP hR bu hM fH bm eD B0 bS Bz;try simp only[g_S]
 refine rg_t 12 Bf ?_;simp only[g_S];refine rg_t 13 Bf ?_;simp only[g_S];refine zj 14 rfl Wj rfl (fun K bB=>?_);refine zK (g:=xb) (j:=3) (v:=.slice A4 (KS.length+1) c4) (vs:=[.slice A4 (KS.length+1) c4]) rfl rfl rfl bA rfl Wj Wz wX #[.int .u8 168,.int .u64 0,.string ⟨#[]⟩,.slice A4 (KS.length+1) c4,.slice A i c] Wz ?_;intro wk Bp H9 _;have hS:=bY.box H9 Wq;have hP:=Bf.grown H9 (sne Wq);have hR:=bF.kept H9 wJ;have bu:=bw.grown hBa H9 (fun g' Ho=>by injection Ho with Ho;exact⟨by omega,.inr (.inr Wq)⟩);refine bB _ _ hP ?_;clear bB K bY Bf bF bw bA H9;try simp only[g_S]
 refine zD Wj ?_;obtain⟨cu,eV⟩:∃K,K=KS++ [ks]:=⟨_,rfl⟩
 have iw:cu.length=KS.length+1:=by rw[eV];simp
 have Bk:Hid (∀k∈cu,k.length≤255):=Lib.hid (fun k hk=>by
  rw[eV]at hk;rcases List.mem_append.1 hk with h|h
  ·exact df.out k h
  ·rw[List.mem_singleton.1 h];exact pe)
 have o7:=Lib.hid eV;rw[←eV]at hS;have mA:cu.length≤i+1:=by omega
 have hX:Box wk xb 78 #[.int .u8 168,.int .u64 0,.string ⟨#[]⟩,.slice A4 cu.length c4,.slice A i c]:=by rw[iw];exact Bp
 go_wp2_with fail;go_meet
 exact⟨rfl,cu,A4,c4,Lib.hid (by simpa using o7.out),mA,Bk,hS,hX,hR,hP,bu⟩):p:=h
theorem Zu_(h:p:=by
 have hl:=hr.length;first|(have qq56:=qq56;go_enter func116,ntmps116)|(go_enter func122,ntmps122)
 go_wp2_with(with_reducible refine h_A ?_);first|(have qq56:=qq56;go_loopw [3] (fun s wr=>∃(k:Nat),k≤n∧s= .int .i64 k∧zW (l.take k)=true∧Below w.heap.size w wr) (fun s _=>n-(intOf s).toNat))|(go_loopw [7] (fun s wr=>∃(k:Nat),k≤n∧s= .int .i64 k∧zW (l.take k)=true∧Below w.heap.size w wr) (fun s _=>n-(intOf s).toNat))
 case atStart=>exact⟨0,by omega,rfl,by simp[zW],Below.refl _ _⟩
 obtain⟨k,hk,rfl,iY,bO⟩:=hrel;by_cases hlt:k<n
 ·have B1:=hr.below (bO.mono hB);obtain⟨b,off,rfl,dP,bK,ik,ck⟩:=RdS.at_k B1 hlt;have lh:=hb l[k] (List.getElem_mem bK);have HN:=Lib.hid (Yi bK);have Lr:=RdS.at_p B1 hk;have mw:=(Xu hb (k-1) Wq).2;generalize(l.getD (k-1) (0,0)).2=t0 at*;generalize l[k].1=f at*;generalize l[k].2=t at*;first|done|(have qq56:=qq56)|(have Hc:Below w.heap.size w ((wr.alloc (.cells #[.int .u32 (f:Int),.int .u32 (t:Int)] 208))):=bO.alloc bO.size _)
  by_cases h1:t<f
  ·(have hd:(t:Int)<(f:Int):=by omega);(first|(have qq56:=qq56;have BN:=jq bK iY nz)|(skip));go_wp2_with(with_reducible refine h_A ?_);(first|done|(have qq56:=qq56)|(skip));go_quiet(fail);go_wp2_with(with_reducible refine h_A ?_);go_ret
   first
   | have qq56:=qq56
     rw[BN]
     exact⟨rfl,za bO _⟩
   | have e:=jq bK iY nz
     rw[e];exact⟨rfl,za Hc _⟩
  have hd:decide ((t:Int)<(f:Int))=false:=by simp;omega
  rcases Nat.eq_zero_or_pos k with dy|h0
  ·(have hd0:decide (0<k)=false:=by simp;omega);have hy:=jG bK iY nz;clear dy
   first
   | have qq56:=qq56
     go_wp2_with(with_reducible refine h_A ?_)
     go_quiet(fail)
   | skip
   go_wp2_with(with_reducible refine h_A ?_);(first|done|(have qq56:=qq56)|(skip));go_quiet(fail);go_wp2_with(with_reducible refine h_A ?_);first|(have qq56:=qq56;exact⟨⟨k+1,by omega,by go_num,hy,by first|exact za bO _|exact za (za bO _) _⟩,by simp[intOf];omega⟩)|(exact⟨⟨k+1,by omega,by go_num,hy,za Hc _⟩,by simp[intOf];omega⟩)
  have hd0:(0:Int)<(k:Int):=by omega
  obtain⟨b',off',e',_,dN⟩:=Lr h0;obtain⟨rfl,rfl⟩:b=b'∧off=off':=by simpa using e'
  clear e' Lr
  first
  | done
  | have qq56:=qq56
  | have ef:b<wr.heap.size:=World.block_lt_of_cell? wr _ ik
    have i6:=(World.cell?_alloc_past (w:=wr) (.cells #[.int .u32 (f:Int),.int .u32 (t:Int)] 208) b (off+(k-1)*2+1) ef).trans dN
  have fw:IntKind.i64.wrap ((k:Int)-1)=((k-1:Nat):Int):=by rw[IntWalk.i64_in _ ⟨by omega,by omega⟩];omega
  have se:((k-1:Nat):Int)<(n:Int):=by omega
  first|(have qq56:=qq56;by_cases h2:f<t0+2)|(by_cases h2:f≤t0)
  ·first
   | have qq56:=qq56
     (have fG:(f:Int)<(t0:Int)+2:=by omega);have BN:=jq bK iY nz;go_wp2_with(with_reducible refine h_A ?_)
     go_quiet(fail)
   | have fG:(f:Int)≤(t0:Int):=by omega
   go_wp2_with(with_reducible refine h_A ?_);(first|done|(have qq56:=qq56)|(skip));go_quiet(fail);go_wp2_with(with_reducible refine h_A ?_);go_ret
   first
   | have qq56:=qq56
     rw[BN]
     exact⟨rfl,by first|exact za bO _|exact za (za bO _) _⟩
   | have e:=jq bK iY nz
     rw[e];exact⟨rfl,za Hc _⟩
  first
  | have qq56:=qq56
    (have fG:decide ((f:Int)<(t0:Int)+2)=false:=by simp;omega);have hy:=jG bK iY nz;go_wp2_with(with_reducible refine h_A ?_);go_quiet(fail);go_wp2_with(with_reducible refine h_A ?_);go_quiet(fail);go_wp2_with(with_reducible refine h_A ?_)
    exact⟨⟨k+1,by omega,by go_num,hy,by first|exact za bO _|exact za (za bO _) _⟩,by simp[intOf];omega⟩
  | have fG:decide ((f:Int)≤(t0:Int))=false:=by simp;omega
    by_cases h3:t0+1=f
    ·(have iG:(((t0:Int)+1)==(f:Int))=true:=by simp;omega);have BN:=jq bK iY nz;clear h3;go_wp2_with(with_reducible refine h_A ?_)
     skip
     go_quiet(fail);go_wp2_with(with_reducible refine h_A ?_);go_ret;rw[BN];exact⟨rfl,za Hc _⟩
    ·(have iG:(((t0:Int)+1)==(f:Int))=false:=by simp;omega);have hy:=jG bK iY nz;go_wp2_with(with_reducible refine h_A ?_)
     skip
     go_quiet(fail);go_wp2_with(with_reducible refine h_A ?_);exact⟨⟨k+1,by omega,by go_num,hy,za Hc _⟩,by simp[intOf];omega⟩
 obtain rfl:k=n:=by omega
 go_wp2_with(with_reducible refine h_A ?_);go_ret;rw[←hl,List.take_length]at iY;rw[iY]
 exact⟨rfl,bO⟩):p:=h
theorem Z3w_(h:p:=by
 go_simp
 first
 | have qqhl:=qqhl
   refine nY.mono ?_
   (rintro e w6 ⟨rfl,rfl⟩)
 | skip
 refine hK _ _ trivial ?_;clear hK K;first|done|(have qqhl:=qqhl)|(clear y0)
 try simp only[g_S]
 first
 | have qqhl:=qqhl
   refine zj 4 rfl Wj rfl (fun K hK=>?_)
 | refine rg_t 5 trivial ?_
   simp only[g_S];refine zj 7 rfl Wj rfl (fun K hK=>?_)
 go_simp
 first
 | done
 | have qqhl:=qqhl
 | refine nY.mono ?_
   (rintro e w6 ⟨rfl,rfl⟩)
 refine hK _ _ trivial ?_;clear hK K;first|(have qqhl:=qqhl;clear y0)|(skip)
 try simp only[g_S]
 first
 | have qqhl:=qqhl
   refine rg_t 5 trivial ?_
   simp only[g_S]
 | skip
 refine rg_t 8 trivial ?_;simp only[g_S];refine zj 9 rfl Wj rfl (fun K hK=>?_);go_simp;refine ip.mono ?_;rintro e w7 ⟨rfl,t7,H9⟩;have u7:=lD.grown H9 (sne Wq);have ic:=Bt.grown bI H9 Uj;refine hK _ _ trivial ?_;clear hK K;refine zD Wj ?_;go_wp2_with(with_reducible refine h_A ?_);go_end0;rw[oI.out,oh.out]
 exact⟨rfl,u7,by simpa[BD]using t7,ic⟩):p:=h
theorem Zv_(h:p:=by
 first
 | done
 | have qq5h:=qq5h
   go_wp2_with(with_reducible refine h_B ?_);refine iq.mono ?_;rintro e w4 ⟨rfl,rfl⟩
   clear iq
 | have qq5g:=qq5g
 | go_wp2_with(with_reducible refine h_B ?_)
   refine iq.mono ?_;rintro e w4 ⟨rfl,rfl⟩;clear iq
 go_wp2_with(with_reducible refine h_B ?_);first|(have qq5h:=qq5h;refine zc (zm (v:=.bool false) (vs:=[.bool false]) rfl rfl rfl rfl bX rfl Wj Wz wX #[.slice A n c,.bool false] Wz ?_))|(refine zc (zm (v:=.bool true) (vs:=[.bool true]) rfl rfl rfl rfl bX rfl Wj Wz wX #[.slice A n c,.bool true] Wz ?_))
 intro w5 cH bc _;have lD:=mp.grown bc (sne Wq);have dv:=cl.grown bc Wq Wx;have gP:=pG.kept bc (fun g hg bG=>by injection hg with hg;have:=bG.1;omega);have Bt:=hK.grown bI bc Uj;clear bX mp cl pG hK bc c1;go_upto_region 3 with fail;refine zt (fun _:World=>True) Wj ?_;first|(have qq5h:=qq5h;replace cH:Box w5.drew rb 194 #[.slice A n c,.bool false]:=cH)|(replace cH:Box w5.drew rb 194 #[.slice A n c,.bool true]:=cH)
 replace lD:Box w5.drew ab 80 cells':=lD;replace dv:RdB w5.drew B A n c l:=dv.drew;replace gP:=gP.drew;replace Bt:=Bt.drew;have pZ:IntKind.i64.wrap ((n:Int)-(l2.length:Int))=((n-l2.length:Nat):Int):=by rw[IntWalk.i64_in _ ⟨by omega,by omega⟩];omega
 generalize w5.drew=wd at*;refine rg_t 0 trivial ?_;simp only[List.getElem_toArray,List.getElem_cons_zero,Act.put,List.setIfInBounds_toArray,List.set_cons_zero,List.set_cons_succ];refine rg_t 1 trivial ?_;simp only[g_S];refine rg_t 2 trivial ?_;simp only[g_S];refine rg_t 3 trivial ?_;simp only[g_S];refine rg_t 6 trivial ?_;simp only[g_S];have y0:=cH.c0;first|(have qq5h:=qq5h;have mo:MRd wd B rb l false:=⟨A,n,c,cH,dv,hn⟩)|(have mo:MRd wd B rb l true:=⟨A,n,c,cH,dv,hn⟩)
 have nY:=yN gP;first|(have qq5h:=qq5h;have ip:=Jl mo hB (n-l2.length) Wq)|(have ip:=ZR mo hB ((n-l2.length:Nat):Int) 0 (.inl rfl))
 refine xO 4 7 rfl rfl Wj rfl rfl (fun K hK=>?_) (fun K hK=>?_)
 ·exact Z3w_
 have qqhl:=()
 exact Z3w_):p:=h
theorem Z52_(h:p:=by
 try simp only[Act.put]
 go_quiet(fail);have eA:=za Hr nq;go_wp2_with(with_reducible refine h_A ?_);go_ret2
 exact⟨by rw[HR.out];rfl,eA⟩):p:=h
theorem Zw_(h:p:=by
 obtain⟨xb,w0,bC,bh,hX,Hr⟩:=zo w (asV a.chan a.track A n c) 42;have nh:lb<w.heap.size:=World.block_lt_of_cell? _ _ c0;have hcw:=hw.1;have k0:=(Hr.cell (p:=⟨lb,0,none⟩) nh).trans c0;first|done|(have qq5v:=qq5v)|(have k2:=(Hr.cell (p:=⟨lb,2,none⟩) nh).trans c2)
 have k3:=(Hr.cell (p:=⟨lb,3,none⟩) nh).trans c3;have k4:=(Hr.cell (p:=⟨lb,4,none⟩) nh).trans c4
 first
 | have qq5v:=qq5v
   have fe:=fun(W:World) (h:Below w.heap.size w W)=>ZO lb L.sz a A n c W ((h.cell (p:=⟨lb,4,none⟩) nh).trans c4) Bm ((hr.below h).more h.size) hw hs hn
   clear c0 c3 c4
 | have fe:=fun(W:World) (h:Below w.heap.size w W)=>Z9 lb L.sz a A n c W ((h.cell (p:=⟨lb,4,none⟩) nh).trans c4) Bm ((hr.below h).more h.size) hw hs hn
   clear c0 c2 c3 c4
 unfold asV at*;have x0:=hX.c0;have x1:=hX.c1;have x2:=hX.c2;have eA:=Hr;obtain⟨R,hR⟩:∃R,R=L.sendA a:=⟨_,rfl⟩
 rw[←hR];have B2:=Lib.hid hR;clear hR;first|(have qq5v:=qq5v;go_enter func20,ntmps20)|(go_enter func17,ntmps17)
 go_upto_region 1 with fail;rw[←bC,←bh];clear bC bh;by_cases q0:L.st=4
 ·have d0:((L.st:Int)!=4)=false:=by rw[q0];rfl
  by_cases q1:a.chan=0
  ·have HR:Hid (R=([],2)):=Lib.hid (by rw[B2.out];unfold LS.sendA;rw[if_neg Wq,if_pos (.inl q1)]);(first|done|(have qq5v:=qq5v)|(have d1:((a.chan:Int)==0)=true:=by rw[q1];rfl));rw[q0]at k0;rw[show((4:Nat):Int)=4 from rfl]at k0;rw[q1]at x0;rw[show((0:Nat):Int)=0 from rfl]at x0
   first
   | have qq5v:=qq5v
     clear q0 q1 d0 fe
     go_upto_region 3 with fail
   | clear q0 q1 d0 d1 fe
     go_upto_region 5 with fail
   exact Z52_
  have d1:((a.chan:Int)==0)=false:=by simp;omega
  rw[q0]at k0;rw[show((4:Nat):Int)=4 from rfl]at k0;by_cases q2:L.ch<a.chan
  ·have HR:Hid (R=([],2)):=Lib.hid (by rw[B2.out];unfold LS.sendA;rw[if_neg Wq,if_pos (.inr q2)]);(have d2:(L.ch:Int)<(a.chan:Int):=by omega);clear q0 q1 q2 d0 fe;(first|(have qq5v:=qq5v;go_upto_region 3 with fail)|(go_upto_region 5 with fail));exact Z52_
  have HR:Hid (R=(qR ((L.sz:Int)-12) a,yP ((L.sz:Int)-12) a)):=Lib.hid (by rw[B2.out];unfold LS.sendA;rw[if_neg Wq,if_neg Wq]);have d2:decide ((L.ch:Int)<(a.chan:Int))=false:=by simp;omega
  have d3:¬(L.ch:Int)<(a.chan:Int):=by omega
  clear q0 q1 q2 d0;first|(have qq5v:=qq5v;go_upto_region 3 with fail)|(go_upto_region 5 with fail)
  try simp only[Act.put]
  go_quiet(fail);have eA:=za Hr nq;have FK:=hX.below (za (Below.refl _ _) nq);have bE:=fe _ eA;clear x0 x1 x2 fe;have x0:=FK.c0;have x1:=FK.c1;have x2:=FK.c2;go_wp2_with(with_reducible refine h_A ?_)
  (with_reducible refine bE.mono ?_)
  rintro e w2 ⟨rfl,Hc⟩;clear bE;go_wp2_with(with_reducible refine h_A ?_);go_ret2;exact⟨by rw[HR.out];rfl,eA.trans (Hc.mono eA.size)⟩
 have HR:Hid (R=([],9)):=Lib.hid (by rw[B2.out];unfold LS.sendA;rw[if_pos q0]);first|(have qq5v:=qq5v;have d0:((L.st:Int)!=4)=true:=by simp;omega)|(have d0:¬(L.st:Int)=4:=by omega)
 clear q0 fe;go_wp2_with(with_reducible refine h_A ?_);go_ret2
 exact⟨by rw[HR.out];rfl,eA⟩):p:=h
end Go.PH
