/- Parts. -/
import Derived.Test.YtfbkameikhgciaaGreatDoorMg17
set_option linter.all false
set_option maxRecDepth 20000
set_option maxHeartbeats 8000000
open Go.Lib renaming hid → Q1
open Nat renaming le_refl → Q2
namespace Go.PH
open Go.RowKit Go.Proofs Go.Proofs.Tryz
theorem Kq(s:List UInt8):str s++(⟨#[65,77,81,80,1,1,0,10]⟩:ByteArray)=str (s++hdrB):=by rw[←jl];rfl
theorem Kr(ctl:LS→As→LS)(c:UInt8){w:World}{B:Nat}{U T:Nat→Prop}{lb gb:Nat}{l:List Fr}{b:List UInt8}{L:LS}(h:RlM w B U T lb gb l b L)(hid:Idle L b)(h5:L.st≠5)(dG:b.length≤1000000)(Bw:L.sz≤1000000)(hs:L.sent.length≤1000000000)
  (Nl:∀(f:Fr) (b':List UInt8) (W:World),f.wf→RlM W B U T lb gb l b' L→f=frAt (b++ [c]) (frN (b++ [c]))→Calls prog 41 #[.pointer (some ⟨lb,0,none⟩),.agg (frV f)] W fun e w'=>e= .returned (.tuple #[])∧∃l2,l2.length≤l.length+1∧RStep W B U T lb gb l2 b' (L.take ctl f) w'):
  Calls prog 28 #[.pointer (some ⟨lb,0,none⟩),.int .u8 (c.toNat:Int)] w fun e w'=>e= .returned (.tuple #[])∧∃l2,l2.length≤l.length+1∧RStep w B U T lb gb l2 (LS.one ctl (L,b) c).2 (LS.one ctl (L,b) c).1 w':=by
 obtain⟨TT,tc,th,F,hX⟩:=h;have P4:=Q1 hid;have HF:=Q1 Nl;clear hid Nl;have BZ:=zi b;obtain⟨r,hr⟩:∃r,r=b++ [c]:=⟨_,rfl⟩
 have ik:r.length=b.length+1:=by rw[hr];simp
 have HR:=Q1 hr;have iY:=Q1 ik;have nN:r.length≤1000001:=by omega
 clear ik;go_enter func28,ntmps28;go_upto_region 0 with fail;go_cut []from 6 (fun wx=>RlX wx B U T lb gb l r L TT tc th F∧KeepF U w wx)
 case first=>
  have hB:Below w.heap.size w w.drew:=za (Below.refl _ w) 1;have h0:=hX.below hB;clear hX;refine jb 11 (fun W:World=>W.cell? ⟨lb,1,none⟩=some (.string (str b))) Wj ?_;have hS:w.drew.cell? ⟨lb,1,none⟩=some (.string (str b)):=h0.box.c1;generalize w.drew=wd at*;refine yi 0 hS ?_;try simp only[g_S]
  refine yi 1 hS ?_;try simp only[g_S]
  refine yi 2 hS ?_;try simp only[g_S]
  refine yi 3 hS ?_;try simp only[g_S]
  refine yi 4 hS ?_;try simp only[g_S]
  refine yi 5 hS ?_;try simp only[g_S]
  refine yH 6 rfl Wj rfl (fun K hK=>?_);obtain⟨ab,w3,bD,bo,hG,Ha⟩:=zq wd #[.int .u8 (c.toNat:Int)] 5;have bZ:=yn (w:=wd) wd.heap.size #[.int .u8 (c.toNat:Int)] 5 1 (Q2 _) WX (size:=1) rfl Wq;rw[←bo,←bD]at bZ;have B4:RdB w3 w3.heap.size (some ⟨ab,0,none⟩) 1 1 [c]:=bZ.rd;have fz:=jk (P:=prog) underlying55 underlying9 underlying5 B4;go_simp;rw[←bo,←bD];replace hS:=(Ha.cell (p:=⟨lb,1,none⟩) h0.box.lt).trans hS;replace h0:=h0.below Ha;replace hB:=hB.trans (Ha.mono hB.size);refine hK _ _ (fun _=>hS) ?_;clear hK K bZ bo bD hG Ha B4;try simp only[g_S]
  refine yH 7 rfl Wj rfl (fun K hK=>?_);go_simp;refine hK _ _ (fun _=>hS) ?_;clear hK K fz;try simp only[g_S]
  have cm:=zi [c];have o4:(9223372036854775807<b.length+1)=False:=by simp;omega
  refine yi 8 hS ?_;try simp only[g_S]
  simp only[jl];rw[←hr];refine yi 9 hS ?_;try simp only[g_S]
  refine yi 10 hS ?_;try simp only[g_S]
  refine yH 11 rfl Wj rfl (fun K hK=>?_);refine zK (g:=lb) (j:=1) (v:=.string (str r)) (vs:=[.string (str r)]) rfl rfl rfl h0.box rfl Wj Wz WZ #[.int .i64 (L.st:Int),.string (str (r)),.pointer (some ⟨gb,0,none⟩),.int .u64 (L.ch:Int),.int .u64 (L.sz:Int),.string (str (L.sent)),.slice TT L.told.length tc] Wz ?_;intro w9 gg BP iJ;refine hK _ _ (fun h=>absurd rfl h) ?_;clear hK K iJ;try simp only[g_S]
  refine kO Wj ?_;go_wp2_with(with_reducible refine h_A ?_);go_meet
  case rel=>exact⟨h0.put (L':=L) BP rfl rfl gg,(KeepF.below hB).trans (.grown (F:=U) BP (fun g e=>.inl Ux)) (fun _ h=>.inl h)⟩
 obtain⟨h0,dA⟩:=hcut;clear hX hr BZ;have c0:=h0.box.c0;have c1:=h0.box.c1;have AL:=zi r;have dD:=zi L.sent;by_cases q0:L.st=0
 ·have iR:Hid (b.length<8):=Q1 (P4.out.hdr q0).1;have nL:r.length≤8:=by have:=iR.out;have:=iY.out;omega
  have lC:Hid (LS.one ctl (L,b) c=if r=hdrB.take r.length then(if r.length=8 then({L with st:=1,sent:=L.sent++hdrB++ctlB L.sz startB},[])else(L,r))else({L with st:=5,sent:=L.sent++hdrB},r)):=Q1 (by
   unfold LS.one;simp only;rw[if_pos q0,←HR.out,←iY.out];by_cases q8:r.length=8
   ·rw[if_pos q8,if_pos (show b.length=7 by have:=iY.out;omega)]
   ·rw[if_neg q8,if_neg (show ¬b.length=7 by have:=iY.out;omega)])
  have d0:((L.st:Int)==0)=true:=by rw[q0];rfl
  clear q0 P4 HF iR;obtain⟨Y,hY⟩:∃Y,Y=decide (r=hdrB.take r.length):=⟨_,rfl⟩
  have hq:((str r).toList==(str (hdrB.take r.length)).toList)=Y:=by
   rw[zl,zl,hY];by_cases e:r=hdrB.take r.length
   ·rw[decide_eq_true e,←e];simp
   rw[decide_eq_false e];simpa using e
  have HQ:=Q1 hq;have HY:=Q1 hY;clear hY hq;go_upto_region 2 with fail;go_cut [32]from 22 (fun s wx=>s= .bool (!Y)∧RlX wx B U T lb gb l r L TT tc th F∧KeepF U w wx)
  case first=>
   have B0:Below wc.heap.size wc wc.drew:=za (Below.refl _ wc) 1;have h1:=h0.below B0;have dM:=dA.trans (.below (F:=U) B0) (fun g hg=>.inl hg);refine zt (fun W:World=>W.cell? ⟨lb,1,none⟩=some (.string (str r))) Wj ?_;have hS:wc.drew.cell? ⟨lb,1,none⟩=some (.string (str r)):=h1.box.c1;clear h0 dA c0 c1 B0 d0;generalize wc.drew=wd at*;refine rg_t 0 hS ?_;simp only[List.getElem_toArray,List.getElem_cons_zero,Act.put,List.setIfInBounds_toArray,List.set_cons_zero,List.set_cons_succ];refine rg_t 1 hS ?_;simp only[g_S];refine rg_t 2 hS ?_;simp only[g_S];refine ze 3 (v:=?_) rfl Wj Wj Wj hS rfl ?_ ?_;rotate_left
   ·intro wS He;have k0:=He;go_simp;(with_reducible rfl)
   simp only[g_S];refine rg_t 4 hS ?_;simp only[g_S];refine rg_t 5 hS ?_;simp only[g_S];refine rg_t 6 hS ?_;simp only[g_S];refine ze 7 (v:=?_) rfl Wj Wj Wj hS rfl ?_ ?_;rotate_left
   ·intro wS He;have k0:=He;go_simp;(with_reducible rfl)
   simp only[g_S];refine rg_t 8 hS ?_;simp only[g_S];refine ze 9 (v:=?_) rfl Wj Wj Wj hS rfl ?_ ?_;rotate_left
   ·intro wS He;rw[qL (x:=.const<| .string ⟨#[65,77,81,80,1,1,0,10]⟩) (lo:=none) (hi:=some<| .tmp 30) underlying9 (l:=hdrB) (i:=0) (j:=r.length)]<;>first|rfl|omega|exact nL|exact .inl ⟨rfl,rfl⟩|exact .inr ⟨_,_,rfl,rfl⟩
   simp only[g_S];simp only[List.drop_zero];refine rg_t 10 hS ?_;simp only[g_S];refine zz Wj ?_;go_wp2_with(with_reducible refine h_A ?_);go_meet
   case rel=>exact⟨by rw[HQ.out],h1,dM⟩
  clear h0 dA c0 c1 d0 HQ;obtain⟨rfl,h0,dA⟩:=hcut
  cases Y with
  | false=>
   have HO:=Q1 (lC.out.trans (if_neg (of_decide_eq_false HY.out.symm)));clear lC HY;have c5:=h0.box.c5;go_wp2_with(with_reducible refine h_B ?_);simp only[Kq];refine zc (zn (j:=5) (v:=.string (str (L.sent++hdrB))) (vs:=[.string (str (L.sent++hdrB))]) rfl rfl rfl rfl h0.box rfl Wj Wz WZ #[.int .i64 (L.st:Int),.string (str (r)),.pointer (some ⟨gb,0,none⟩),.int .u64 (L.ch:Int),.int .u64 (L.sz:Int),.string (str (L.sent++hdrB)),.slice TT L.told.length tc] Wz ?_);intro w6 eA BP ef;clear ef;have h1:=h0.put (L':={L with sent:=L.sent++hdrB}) BP rfl rfl eA;have dM:=dA.trans (.grown (F:=U) BP (fun g e=>.inl Ux)) (fun _ h=>.inl h);clear h0 dA BP eA c5;go_wp2_with(with_reducible refine h_B ?_);refine zc (zn (j:=0) (v:=.int .i64 5) (vs:=[.int .i64 5]) rfl rfl rfl rfl h1.box rfl Wj Wz WZ #[.int .i64 (5),.string (str (r)),.pointer (some ⟨gb,0,none⟩),.int .u64 (L.ch:Int),.int .u64 (L.sz:Int),.string (str (L.sent++hdrB)),.slice TT L.told.length tc] Wz ?_);intro w7 eA BP ef;clear ef;have h2:=h1.put (L':={L with sent:=L.sent++hdrB,st:=5}) BP rfl rfl eA;have Bk:=dM.trans (.grown (F:=U) BP (fun g e=>.inl UX)) (fun _ h=>.inl h);clear h1 dM BP eA;go_wp2_with(with_reducible refine h_B ?_);refine bodyPost_ret (results_none rfl _ _ _) rfl ?_
   exact⟨rfl,l,by omega,by rw[HO.out];exact RStep.mk h2 Bk⟩
  | true=>
   have HO:=Q1 (lC.out.trans (if_pos (of_decide_eq_true HY.out.symm)));clear lC HY;have c1:=h0.box.c1;by_cases q8:r.length=8
   ·have HP:=Q1 (HO.out.trans (if_pos q8));(have d8:((r.length:Int)==8)=true:=by rw[q8];rfl);clear HO q8;go_wp2_with(with_reducible refine h_B ?_);refine zc (zn (j:=1) (v:=.string (str ([]))) (vs:=[.string (str ([]))]) rfl rfl rfl rfl h0.box rfl Wj Wz WZ #[.int .i64 (L.st:Int),.string (str ([])),.pointer (some ⟨gb,0,none⟩),.int .u64 (L.ch:Int),.int .u64 (L.sz:Int),.string (str (L.sent)),.slice TT L.told.length tc] Wz ?_);intro w6 eA BP ef;clear ef;have h1:=h0.put (L':=L) (b':=[]) BP rfl rfl eA;have dM:=dA.trans (.grown (F:=U) BP (fun g e=>.inl Ux)) (fun _ h=>.inl h);clear h0 dA BP eA c1 d8;go_wp2_with(with_reducible refine h_B ?_);refine zc (zn (j:=0) (v:=.int .i64 1) (vs:=[.int .i64 1]) rfl rfl rfl rfl h1.box rfl Wj Wz WZ #[.int .i64 (1),.string (str ([])),.pointer (some ⟨gb,0,none⟩),.int .u64 (L.ch:Int),.int .u64 (L.sz:Int),.string (str (L.sent)),.slice TT L.told.length tc] Wz ?_);intro w7 eA BP ef;clear ef;have h2:=h1.put (L':={L with st:=1}) BP rfl rfl eA;have Bk:=dM.trans (.grown (F:=U) BP (fun g e=>.inl UX)) (fun _ h=>.inl h);clear h1 dM BP eA;(have dC:∀W,Calls prog 30 #[.int .u64 0,.string ⟨#[112,111,115,116,104,111,117,115,101]⟩] W fun e w'=>e= .returned (.agg #[.bool true,.int .u64 (0),.string (⟨#[112,111,115,116,104,111,117,115,101]⟩),.int .u32 0,.string ⟨#[]⟩,.string ⟨#[]⟩,.slice none 0 0,.int .u8 0,.int .u64 0,.string ⟨#[]⟩,.slice none 0 0,.slice none 0 0])∧Below W.heap.size W w':=fun W=>jq 0 [112,111,115,116,104,111,117,115,101] W);(have fh:∀(W:World) (A:Option Addr),Rd W W.heap.size 12 A 1 1 (rowC saC [⟨true,0,[112,111,115,116,104,111,117,115,101]⟩])→RlX W B U T lb gb l [] {L with st:=1} TT tc th F→Calls prog 29 #[.pointer (some ⟨lb,0,none⟩),.int .u8 1,.slice A 1 1] W fun e w'=>e= .returned (.string (str (ctlB L.sz startB)))∧Below W.heap.size W w':=fun W A hr hx=>j4 1 _ _ zdv WJ lb L.sz A 1 1 W hr (hx.box.cell (j:=4) rfl) Bw);have bC:(ctlB L.sz startB).length≤10000:=Nat.le_trans (jj _ _) WJ;(obtain⟨cb,Bm⟩:∃cb,cb=ctlB L.sz startB:=⟨_,rfl⟩);rw[←Bm]at fh bC;have pZ:=Q1 Bm;clear Bm;have cm:=zi cb;have d9:=zi (L.sent++hdrB);(have fB:(L.sent++hdrB).length=L.sent.length+8:=by simp[hdrB]);(have TE:(9223372036854775807<L.sent.length+8)=False:=by simp;omega);(have S8:(9223372036854775807<L.sent.length+hdrB.length+cb.length)=False:=by rw[show hdrB.length=8 from rfl];simp;omega);clear fB;go_upto_region 8 with fail;have B0:Below w7.heap.size w7 w7.drew:=za (Below.refl _ w7) 1;replace h0:=h2.below B0;have fo:=Bk.trans (.below (F:=U) B0) (fun g hg=>.inl hg);clear h2 Bk B0;refine jb 13 (fun W:World=>W.cell? ⟨lb,5,none⟩=some (.string (str L.sent))) Wj ?_;have hS:w7.drew.cell? ⟨lb,5,none⟩=some (.string (str L.sent)):=h0.box.c5;generalize w7.drew=wd at*;have hB:=Below.refl wd.heap.size wd;refine yi 0 hS ?_;(try simp only[g_S]);refine yi 1 hS ?_;(try simp only[g_S]);refine yi 2 hS ?_;(try simp only[g_S]);refine yi 3 hS ?_;(try simp only[g_S]);refine yi 4 hS ?_;(try simp only[g_S]);refine yi 5 hS ?_;(try simp only[g_S]);simp only[Kq];refine yi 6 hS ?_;(try simp only[g_S]);refine yH 7 rfl Wj rfl (fun K hK=>?_);go_simp
    (with_reducible refine(dC _).mono ?_)
    rintro e w2 ⟨rfl,Ha⟩;replace hS:=(Ha.cell (p:=⟨lb,5,none⟩) h0.box.lt).trans hS;refine hK _ _ (fun _=>hS) ?_;clear hK K;replace h0:=h0.below Ha;replace hB:=hB.trans (Ha.mono hB.size);clear Ha;(try simp only[g_S]);refine yH 8 rfl Wj rfl (fun K hK=>?_);obtain⟨ab,w3,bD,bo,hG,Ha⟩:=zq w2 #[.bool true,.int .u64 (0),.string (⟨#[112,111,115,116,104,111,117,115,101]⟩),.int .u32 0,.string ⟨#[]⟩,.string ⟨#[]⟩,.slice none 0 0,.int .u8 0,.int .u64 0,.string ⟨#[]⟩,.slice none 0 0,.slice none 0 0] 80;have bZ:=yn (w:=w2) (w2).heap.size #[.bool true,.int .u64 (0),.string (⟨#[112,111,115,116,104,111,117,115,101]⟩),.int .u32 0,.string ⟨#[]⟩,.string ⟨#[]⟩,.slice none 0 0,.int .u8 0,.int .u64 0,.string ⟨#[]⟩,.slice none 0 0,.slice none 0 0] 80 1 (Q2 _) WX (size:=12) rfl Wq;rw[←bo,←bD]at bZ;have fa:Rd w3 w3.heap.size 12 (some ⟨ab,0,none⟩) 1 1 (rowC saC [⟨true,0,[112,111,115,116,104,111,117,115,101]⟩]):=bZ.rd;refine YW (zay rfl rfl rfl) ?_;rw[←bo,←bD];replace hS:=(Ha.cell (p:=⟨lb,5,none⟩) h0.box.lt).trans hS;refine hK _ _ (fun _=>hS) ?_;clear hK K bZ bo bD hG;replace h0:=h0.below Ha;replace hB:=hB.trans (Ha.mono hB.size);clear Ha;(try simp only[g_S]);refine yH 9 rfl Wj rfl (fun K hK=>?_);have fy:=fh w3 _ fa h0;go_simp
    (with_reducible refine(fy).mono ?_)
    rintro e w4 ⟨rfl,Ha⟩;replace hS:=(Ha.cell (p:=⟨lb,5,none⟩) h0.box.lt).trans hS;refine hK _ _ (fun _=>hS) ?_;clear hK K;replace h0:=h0.below Ha;replace hB:=hB.trans (Ha.mono hB.size);clear Ha;(try simp only[g_S]);clear fy;refine yi 10 hS ?_;(try simp only[g_S]);simp only[jl];refine yi 11 hS ?_;(try simp only[g_S]);refine yi 12 hS ?_;(try simp only[g_S]);refine yH 13 rfl Wj rfl (fun K hK=>?_);refine zK (g:=lb) (j:=5) (v:=.string (str (L.sent++hdrB++cb))) (vs:=[.string (str (L.sent++hdrB++cb))]) rfl rfl rfl h0.box rfl Wj Wz WZ #[.int .i64 (1),.string (str ([])),.pointer (some ⟨gb,0,none⟩),.int .u64 (L.ch:Int),.int .u64 (L.sz:Int),.string (str (L.sent++hdrB++cb)),.slice TT L.told.length tc] Wz ?_;intro w9 gg BP iJ;refine hK _ _ (fun h=>absurd rfl h) ?_;clear hK K iJ;(try simp only[g_S]);refine kO Wj ?_;go_wp2_with(with_reducible refine h_A ?_);refine bodyPost_ret (results_none rfl _ _ _) rfl ?_;exact⟨rfl,l,by omega,by rw[HP.out,←pZ.out];exact RStep.mk (h0.put (L':={L with st:=1,sent:=L.sent++hdrB++cb}) BP rfl rfl gg) ((fo.trans (.below (F:=U) hB) (fun g hg=>.inl hg)).trans (.grown (F:=U) BP (fun g e=>.inl Ux)) (fun _ h=>.inl h))⟩
   have HP:=Q1 (HO.out.trans (if_neg q8));(have d8:((r.length:Int)==8)=false:=by simp;omega);clear HO q8;go_wp2_with(with_reducible refine h_A ?_);refine bodyPost_ret (results_none rfl _ _ _) rfl ?_;exact⟨rfl,l,by omega,by rw[HP.out];exact RStep.mk h0 dA⟩
 have lC:Hid (LS.one ctl (L,b) c=if zN r=false then(L.close 501 yp,r)else if 12≤r.length∧frN r≤r.length then(L.take ctl (frAt r (frN r)),r.drop (frN r))else(L,r)):=Q1 (by
  unfold LS.one;simp only
  rw[if_neg q0,←HR.out])
 have d0:((L.st:Int)==0)=false:=by simp;omega
 have iU:L.st≠0:=q0;clear q0 P4;go_wp2_with(first|(with_reducible refine zZ ?_)|(with_reducible refine yr ?_)|(with_reducible refine yq ?_)|(with_reducible refine yg ?_)|(with_reducible refine yt (s:=9) (t:=55) ?_));refine zc (QU underlying9 underlying55 underlying5 rfl rfl rfl (l:=r) Wq ?_);intro c3 w3 cj Hh;have h1:=h0.below Hh;have dM:=dA.trans (.below (F:=U) Hh) (fun g hg=>.inl hg);have rE:=zbF (some ⟨wc.heap.size,0,none⟩) r.length c3 r w3.heap.size w3 cj (Q2 _) Wq;clear h0 dA c0 c1 d0 cj Hh;go_wp2_with(with_reducible refine h_A ?_);refine rE.mono ?_;rintro e w4 ⟨rfl,Hn⟩;clear rE;have h2:=h1.below Hn;have Bk:=dM.trans (.below (F:=U) Hn) (fun g hg=>.inl hg);clear h1 dM Hn;obtain⟨fr,nt⟩:∃fr,fr=(Kd r).1:=⟨_,rfl⟩
 obtain⟨nn,de⟩:∃nn,nn=(Kd r).2:=⟨_,rfl⟩
 rw[←nt,←de];have Wf:=Q1 nt;have uN:=Q1 de;clear nt de;unfold frV;obtain⟨fb,w5,bD,bo,hG,bw⟩:=zq w4 #[.bool false,.bool false,.bool false,.bool false,.int .u8 0,.int .u8 0,.int .u16 0,.string ⟨#[]⟩] 97;go_wp2_with(with_reducible refine h_B ?_);rw[←bo,←bD];have Ea:w4.heap.size≤fb:=by omega
 clear bo bD;refine zc (zn (v:=.agg #[.bool fr.first,.bool fr.last,.bool fr.beg,.bool fr.fin,.int .u8 (fr.ty:Int),.int .u8 (fr.track:Int),.int .u16 (fr.chan:Int),.string (str fr.load)]) (vs:=[.bool fr.first,.bool fr.last,.bool fr.beg,.bool fr.fin,.int .u8 (fr.ty:Int),.int .u8 (fr.track:Int),.int .u16 (fr.chan:Int),.string (str fr.load)]) rfl rfl rfl rfl hG rfl Wj Wz WZ #[.bool fr.first,.bool fr.last,.bool fr.beg,.bool fr.fin,.int .u8 (fr.ty:Int),.int .u8 (fr.track:Int),.int .u16 (fr.chan:Int),.string (str fr.load)] Wz ?_);intro w6 di bz fc;clear fc;have bG:Below w4.heap.size w4 w6:=bw.grown bz bw.size Wx;have h3:=h2.below bG;have fo:=Bk.trans (.below (F:=U) bG) (fun g hg=>.inl hg);have dc:=h2.box.lt;clear h2 Bk hG bw bz bG;have c1:=h3.box.c1;by_cases qn:0<nn
 ·have Cu:Hid (nn=frN r∧fr=frAt r (frN r)∧zN r=true∧12≤r.length∧frN r≤r.length):=Q1 (by
   by_cases hc:r.length<12∨zN r=false∨r.length<frN r
   ·rw[uN.out,Ze hc]at qn;exact absurd qn Wz
   ·have w1:12≤r.length:=by omega
    have w2:zN r=true:=by
     cases hq:zN r with
     | true=>rfl
     | false=>exact absurd (.inr (.inl hq)) hc
    (have w3:frN r≤r.length:=by omega);rw[uN.out,Wf.out,ZX w1 w2 w3]
    exact⟨rfl,rfl,w2,w1,w3⟩)
  have RI:nn≤r.length:=by have:=Cu.out;omega
  have g1:(0:Int)<(nn:Int):=by omega
  have HP:Hid (LS.one ctl (L,b) c=(L.take ctl fr,r.drop nn)):=Q1 (by
   obtain⟨e1,e2,e3,e4,e5⟩:=Cu.out
   rw[lC.out,if_neg (by rw[e3];simp),if_pos ⟨e4,e5⟩,e1,e2])
  have nw:fr.wf:=by rw[Cu.out.2.1];exact KC _ _
  have Fv:=HF.out fr (r.drop nn);rw[←HR.out]at Fv;have uG:=fun W hM=>Fv W nw hM Cu.out.2.1
  unfold frV at uG;clear lC Fv nw;go_wp2_with(first|(with_reducible refine zZ ?_)|(with_reducible refine yr ?_)|(with_reducible refine yq ?_)|(with_reducible refine yg ?_)|(with_reducible refine yt (s:=9) (t:=55) ?_)|(with_reducible refine xr ?_));refine zc (X8 underlying9 rfl rfl (l:=r) rfl nn r.length (.inr ⟨_,_,rfl,rfl⟩) (.inl ⟨rfl,rfl⟩) RI (Q2 _) ?_);rw[List.take_length];go_wp2_with(with_reducible refine h_B ?_);refine zc (zn (j:=1) (v:=.string (str (r.drop nn))) (vs:=[.string (str (r.drop nn))]) rfl rfl rfl rfl h3.box rfl Wj Wz WZ #[.int .i64 (L.st:Int),.string (str (r.drop nn)),.pointer (some ⟨gb,0,none⟩),.int .u64 (L.ch:Int),.int .u64 (L.sz:Int),.string (str (L.sent)),.slice TT L.told.length tc] Wz ?_);intro w7 eA BP ef;clear ef;have h4:=h3.put (L':=L) (b':=r.drop nn) BP rfl rfl eA;have r7:=fo.trans (.grown (F:=U) BP (fun g e=>.inl (by injection e with e;rw[←e];exact h3.lb))) (fun _ h=>.inl h);have om:=di.grown BP uq;have f0:=om.c0;have f1:=om.c1;have f2:=om.c2;have f3:=om.c3;have f4:=om.c4;have f5:=om.c5;have f6:=om.c6;have f7:=om.c7;have dk:=uG w7 ⟨_,_,_,_,h4⟩;clear h3 fo uG di BP eA c1 h4;go_wp2_with(with_reducible refine h_A ?_);refine dk.mono ?_;rintro e w9 ⟨rfl,l2,cN,bV⟩;clear dk;go_wp2_with(with_reducible refine h_A ?_);refine bodyPost_ret (results_none rfl _ _ _) rfl ?_;exact⟨rfl,l2,cN,by rw[HP.out];exact RStep.of r7 (fun _ h=>.inl h) (fun _ h=>.inl h) bV⟩
 have BO:Hid (nn=0∧¬(zN r=true∧12≤r.length∧frN r≤r.length)):=Q1 ⟨by omega,fun hc=>by
  rw[uN.out,ZX hc.2.1 hc.1 hc.2.2]at qn;have:=(qe hc.1 Wq).1;simp at qn
  omega⟩
 have g1:¬(0:Int)<(nn:Int):=by omega
 have HP:Hid (LS.one ctl (L,b) c=if zN r=false then(L.close 501 yp,r)else(L,r)):=Q1 (by
  rw[lC.out];by_cases hw:zN r=false
  ·rw[if_pos hw,if_pos hw]
  ·rw[if_neg hw,if_neg hw,if_neg (fun hc=>BO.out.2 ⟨by simpa using hw,hc⟩)])
 clear lC HF di Ea;go_wp2_with(first|(with_reducible refine zZ ?_)|(with_reducible refine yr ?_)|(with_reducible refine yq ?_)|(with_reducible refine yg ?_)|(with_reducible refine yt (s:=9) (t:=55) ?_));refine zc (QU underlying9 underlying55 underlying5 rfl rfl rfl (l:=r) Wq ?_);intro c7 w7 Ah Bn;have h4:=h3.below Bn;have r7:=fo.trans (.below (F:=U) Bn) (fun g hg=>.inl hg);have pe:=XW (some ⟨w6.heap.size,0,none⟩) r.length c7 r w7.heap.size w7 Ah (Q2 _) Wq;clear h3 fo c1 Ah Bn;go_wp2_with(with_reducible refine h_A ?_);refine pe.mono ?_;rintro e w8 ⟨rfl,Bf⟩;clear pe;have IW:=h4.below Bf;have sh:=r7.trans (.below (F:=U) Bf) (fun g hg=>.inl hg);clear h4 r7 Bf
 cases hw:zN r with
 | false=>
  have HQ:=Q1 (HP.out.trans (if_pos hw));have Bc:=yV 501 yp WJ WJ ⟨_,_,_,_,IW⟩ Bw Wq;rw[show((501:Nat):Int)=501 from rfl,show str yp=(⟨#[102,114,97,109,101]⟩:ByteArray)from rfl]at Bc;clear HP hw IW;go_wp2_with(with_reducible refine h_A ?_)
  (with_reducible refine Bc.mono ?_)
  rintro e w9 ⟨rfl,bV⟩;clear Bc;go_wp2_with(with_reducible refine h_A ?_);go_end0
  exact⟨rfl,l,by omega,by rw[HQ.out];exact RStep.of sh (fun _ h=>.inl h) (fun _ h=>.inl h) bV⟩
 | true=>
  have HQ:=Q1 (HP.out.trans (if_neg (by rw[hw];simp)));clear HP hw;go_wp2_with(with_reducible refine h_A ?_);go_end0;exact⟨rfl,l,by omega,by rw[HQ.out];exact RStep.mk IW sh⟩
end Go.PH
