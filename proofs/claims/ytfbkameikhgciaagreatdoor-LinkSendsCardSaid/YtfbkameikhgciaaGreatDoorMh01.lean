/- Parts. -/
import Derived.Test.YtfbkameikhgciaaGreatDoorProg
import Derived.Test.YtfbkameikhgciaaGreatDoorMh00
set_option linter.all false
set_option maxRecDepth 20000
set_option maxHeartbeats 8000000
open Go.RowKit.Below renaming refl → KL, heap_setCell → z7, drew → z8
open Go.Lib renaming hid → Q1, run_unsafeString_none → z9, run_unsafeSliceData_row → yB
open List renaming getElem_cons_zero → VB, getElem_toArray → Vy, setIfInBounds_toArray → Vx, set_cons_zero → q5, set_cons_succ → q6, range → q9, eq_nil_of_length_eq_zero → ky, length_cons → k7, drop_drop → k8, nil_append → v0, map_append → v1, drop_eq_getElem_cons → v4, length_nil → v5, isEmpty_cons → v9, take_of_length_le → j1, map_take → zB, map_drop → zA, mem_range → z6, take_zero → yA, replicate → y1, length_append → y2, append_nil → y3, getElem_mem → y6, dropLast_concat_getLast → y7, getElem?_eq_getElem → y8, drop_zero → y9, take_succ_cons → xy, all_eq_true → x6
open Nat renaming le_refl → Q2, mul_one → q8, zero_mul → kx, add_zero → k6, lt_of_lt_of_le → v3, zero_add → y0, eq_zero_or_pos → y5, sub_zero → xT, min_eq_left → xA
open Go.RowKit renaming intOf → K2
open UInt8 renaming ofNat → KS
open Go.World renaming cell?_alloc_new → K0, block_lt_of_cell? → K1, cell?_setCell_other → q7, cell?_setCell_far → kI, setCell → k9, grownBy → vz, cell?_alloc_past → v2, cell? → j2, cell?_setCell_same → j8, ownsMap_made → y4, frozen?_of_block → xB
namespace Go.PH
open Go.RowKit Go.Proofs Go.Proofs.Tryz
variable {cs : Array Value} {b1 b2 b3 b4 bad : Bool} {x : Int} {l ld : List UInt8} {T a b base c ch g i k m mb n pb size t tr ty : Nat} {F : Nat → Prop} {A : Option Addr} {vb : Option Nat} {v : Value} {w w' : World}
structure BPl(T size off:Nat):Prop where
 lies:liesAt prog prog.depth T (size / prog.cellsOf T) off 59 1=true
 lt:off+1<size
theorem xW{off:Nat}(hb:Box w g T cs)(u:Value):Box (w.setCell ⟨g,off,none⟩ u) g T (cs.setIfInBounds off u):=by
 unfold Box at hb ⊢;simp[k9,Array.getElem?_modify,hb]
theorem yC(w:World)(g off:Nat)(u:Value):w.grownBy (w.setCell ⟨g,off,none⟩ u) (some g):=
 ⟨rfl,rfl,rfl,by simp[k9],fun k _ hk=>z7 _ _ _ _ (fun e=>hk (by simp[e]))⟩
theorem zaR(w:World)(g off:Nat)(u:Value):(w.setCell ⟨g,off,none⟩ u).heap.size=w.heap.size:=by simp[k9]
def bPtr(g off:Nat):Value:=.pointer (some ⟨g,off,none⟩)
theorem xx{P:Program}{ops:Array Oper}{Q:Exit→Act→World→Prop}{rest:List Oper}{a:Act}{o:Oper}{x y:Operand}{j:Nat}(hw:Region.wanted o (yielded ops a.tmps)=true)(ho:o.op= .store ty x y)(hx:a.eval x= .pointer (some ⟨g,j,none⟩))(hy:a.eval y=v)
  (hb:Box w g t cs) (hv:v.cells.toList=[v]) (hi:(P.info? ty).map (·.size)=some 1) (hj:j<cs.size)
  (h:∀w',Box w' g t (cs.setIfInBounds j v)→w.grownBy w' (some g)→w'.heap.size=w.heap.size→wpList P ops Q rest (a.put o.dst undef) w') (h1:v.oneCell'=true:=by rfl):wpList P ops Q (o::rest) a w:=
 zm hw ho hx hy hb hv hi Hq (by simpa using h1) (cs.setIfInBounds j v) (by
  apply Array.ext';simp only[Array.toList_setIfInBounds];rw[List.set_eq_take_append_cons_drop,if_pos (by simpa using hj)]
  simp) h
theorem Zc(h:Own w base 5 1 A n c (l.map u8v)):l.length=n:=by have:=h.1;simpa using this
theorem kY{off:Nat}(hp:BPl T size off)(w:World)(cs:Array Value)(hb:Box w g T cs)(hs:cs.size=size)(p:Value)(h0:cs[off]?=some p)(MR:p= .pointer none∨p=bPtr g off):
  Calls prog 49 #[.pointer (some ⟨g,off,none⟩)] w fun e w'=>e= .returned (.tuple #[])∧Box w' g T (cs.setIfInBounds off (bPtr g off))∧w.grownBy w' (some g)∧w'.heap.size=w.heap.size:=by
 obtain⟨j,hj,ap⟩:=Option.map_eq_some_iff.1 (show(prog.info? 59).map (·.size)=some 2 by kernel_rfl);have nU:w.shape? g=some (T,size):=by unfold Box at hb;simp[World.shape?,hb,hs]
 have Eb:=hb.thaw off;have c0:=hb.cell h0;rcases MR with rfl|rfl
 ·have GK:=Lib.run_to_unsafe (P:=prog) w ⟨g,off,none⟩ underlying57 underlying139 hj (by rw[ap];decide) nU (by have:=hp.lt;exact Nat.lt_of_succ_lt this);have hU2:=Lib.run_from_unsafe (P:=prog) w ⟨g,off,none⟩ underlying139 underlying57 hj nU hp.lies;have hF:=xW hb (off:=off) (bPtr g off);have hG:=yC w g off (bPtr g off);have hZ:=zaR w g off (bPtr g off);have HQ:=Q1 (And.intro hF (And.intro hG hZ));clear hF hG hZ;go_enter func49,ntmps49;go_wp2;rw[run_callFunc_extern func68 Wj Wj Wj (e:=Extern.AbiNoEscape.same) Wj];rw[Lib.run_noEscape];simp only[Result.andThen];rw[Oper.upon_value];go_wp2;go_end0;exact⟨rfl,HQ.out⟩
 have hne:=Lib.run_neq_ptr_same (P:=prog) w (⟨g,off,none⟩:Addr) underlying57 hj
 have fZ:cs.setIfInBounds off (bPtr g off)=cs:=by
  apply Array.ext
  ·simp
  intro i h1 h2;rw[Array.getElem_setIfInBounds];split
  ·rename_i e;subst e;rw[Array.getElem?_eq_getElem h2]at h0;injection h0 with h0;exact h0.symm
  rfl
 rw[fZ];unfold bPtr at c0;go_enter func49,ntmps49;go_wp2;go_end0;exact⟨rfl,hb,⟨rfl,rfl,rfl,Q2 _,fun _ _ _=>rfl⟩,rfl⟩
theorem Q4{off:Nat}{u:Value}(h:cs[off+1]?=some v):(cs.setIfInBounds off u)[off+1]?=some v:=by
 rw[Array.getElem?_setIfInBounds_ne Wq];exact h
structure Wrote(w:World)(T g off base:Nat)(cs:Array Value)(A:Option Addr)(l:List UInt8)(w':World):Prop where
 ex:∃A2 c2,Box w' g T ((cs.setIfInBounds off (bPtr g off)).setIfInBounds (off+1) (.slice A2 l.length c2))∧Own w' base 5 1 A2 l.length c2 (l.map u8v)∧blk A2≠some g∧(blk A2=blk A∨∀k,blk A2=some k→w.heap.size≤k)
 keep:KeepF (fun k=>k=g∨blk A=some k) w w'
theorem Q5{w1 w2 w3:World}{off c2:Nat}{A2:Option Addr}(hb:Box w g T cs)(Hl:Own w base 5 1 A n m (l.map u8v))(hne:blk A≠some g){L:List UInt8}{N:Nat}(hN:N=L.length)
  (bL:Box w1 g T (cs.setIfInBounds off (bPtr g off))) (bM:w.grownBy w1 (some g)) (cq:w1.heap.size=w.heap.size) (bW:Own w2 base 5 1 A2 N c2 (L.map u8v)) (Hm:w1.grownBy w2 (blk A)) (hA:blk A2=blk A∨∀k,blk A2=some k→w1.heap.size≤k)
  (bX:Box w3 g T ((cs.setIfInBounds off (bPtr g off)).setIfInBounds (off+1) (.slice A2 N c2))) (H7:w2.grownBy w3 (some g)):Wrote w T g off base cs A L w3:=by
 subst hN;have fB:=hb.lt
 have eJ:blk A2≠some g:=fun e=>by
  rcases hA with h|h
  ·exact hne (by rw[←h,e])
  have:=h g e;omega
 refine⟨⟨A2,c2,bX,zk bW H7 (fun k hk e=>eJ zAa),eJ,hA.imp id (fun h k hk=>by have:=h k hk;omega)⟩,?_⟩;refine((KeepF.grown bM (fun k hk=>.inl (.inl uj))).trans (.grown (F:=fun k=>k=g∨blk A=some k) Hm (fun k hk=>.inl (.inr hk))) (fun k hk=>.inl hk)).trans (.grown (F:=fun k=>k=g∨blk A=some k) H7 (fun k hk=>.inl (.inl uj))) (fun k hk=>.inl hk)
theorem Qk(g n:Nat)(hF:F g):KeepF F w ((w.drew).freeze ⟨g,0,none⟩ n):=by
 unfold World.freeze;split
 ·exact .below (z8 (KL _ w))
 refine⟨by simp,fun k hk hn=>?_,⟨rfl,rfl,rfl⟩⟩;simp only[Array.getElem?_modify];rw[if_neg (fun e=>hn (by rw[←e];exact hF))];rfl
theorem kZ{off:Nat}(w:World)(cs:Array Value)(hb:Box w g T cs)(A:Option Addr)(l:List UInt8)(h1:cs[off+1]?=some (.slice A n c))(Hl:Own w base 5 1 A n c (l.map u8v)):
  Calls prog 27 #[.pointer (some ⟨g,off,none⟩)] w fun e w'=>e= .returned (.string (str l))∧KeepF (fun k=>blk A=some k) w w':=by
 have k1:=hb.cell h1;have fB:=hb.lt;have BD:=Zc Hl;have aZ:=fun(W:World) (q:Option Addr)=>z9 (P:=prog) W 99 3 9 q
 have HO:=Hl;rcases Hl.2 with⟨hv,hx⟩|⟨gb,cap,cur,hv,eP,hg,iC,rR,fZ,gV⟩
 ·injection hv with e1 e2 e3
  subst e1;have fE:l=[]:=ky Wq;subst fE;subst hx e3;have k2:w.drew.cell? ⟨g,off+1,none⟩=some (.slice none 0 0):=k1;have Ir:(Builtin.unsafeSliceData_ #[55] 99 #[.slice none 0 0]).run prog w.drew= .ok (.pointer none) w.drew:=rfl;clear aZ HO Hl BD;have hUS:=z9 (P:=prog) w.drew 99 3 9 none;clear hb h1 fB;exact Z5h_
 injection hv with e1 e2 e3
 subst e1 e3;have k2:w.drew.cell? ⟨g,off+1,none⟩=some (.slice (some ⟨gb,0,none⟩) n c):=k1;by_cases rW:n=0
 ·subst rW;have fE:l=[]:=ky BD;subst fE;by_cases ik:c=0
  ·subst ik
   have Ir:(Builtin.unsafeSliceData_ #[55] 99 #[.slice (some ⟨gb,0,none⟩) 0 0]).run prog w.drew= .ok (.pointer (some ⟨w.drew.heap.size,0,none⟩)) (w.drew.alloc (.view ⟨gb,0,none⟩ 5)):=
    Lib.run_unsafeSliceData_zero w.drew _ _ 5 underlying99 ⟨gb,0,none⟩ 0 (5,cur.size) MQ
   have bE:Box (w.drew.alloc (.view ⟨gb,0,none⟩ 5)) g T cs:=(show Box w.drew g T cs from hb).alloc _;have k3:(w.drew.alloc (.view ⟨gb,0,none⟩ 5)).cell? ⟨g,off+1,none⟩=some (.slice (some ⟨gb,0,none⟩) 0 0):=bE.cell h1;have k4:(w.alloc (.view ⟨gb,0,none⟩ 5)).drew.cell? ⟨g,off+1,none⟩=some (.slice (some ⟨gb,0,none⟩) 0 0):=k3;clear HO Hl BD hb h1 fB hg iC rR fZ gV eP bE;go_enter func27,ntmps27;go_wp2;go_region;all_goals(go_wp2;go_ret;exact⟨rfl,.below ((z8 (KL _ w)).alloc (Q2 _) _)⟩)
  have Ir:(Builtin.unsafeSliceData_ #[55] 99 #[.slice (some ⟨gb,0,none⟩) 0 c]).run prog w.drew= .ok (.pointer (some ⟨gb,0,none⟩)) w.drew:=
   yB _ _ _ _ _ _ ik
  clear HO Hl BD hb h1 fB hg iC rR fZ gV eP ik;exact Z5h_
 have fE:l≠ []:=fun e=>rW (by rw[←BD,e];rfl)
 have Ir:(Builtin.unsafeSliceData_ #[55] 99 #[.slice (some ⟨gb,0,none⟩) n c]).run prog w.drew= .ok (.pointer (some ⟨gb,0,none⟩)) w.drew:=
  yB _ _ _ _ _ _ Wq
 have hUS:(Builtin.unsafeString_ #[99,3] 9 #[.pointer (some ⟨gb,0,none⟩),.int .i64 (n:Int)]).run prog w.drew= .ok (.string (str l)) (w.drew.freeze ⟨gb,0,none⟩ n):=by
  have:=Lib.run_unsafeString_row (P:=prog) w.drew 99 3 9 5 underlying99 Wj gb cur.size MQ l fE (by rw[fZ];omega) (by unfold maxLen at rR;omega) (by
   intro j x hx;have:=HO.cells (g:=gb) rfl j (.int .u8 x.toNat) (by simp[u8v,hx])
   exact this)
  rw[BD]at this;exact this
 have HK:=Q1 (Qk (w:=w) (F:=fun k=>blk (some (⟨gb,0,none⟩:Addr))=some k) gb n rfl);have Bz:(n:Int)≤9223372036854775807:=by unfold maxLen at rR;omega
 clear HO Hl BD hb h1 fB hg iC rR fZ gV eP rW fE;go_enter func27,ntmps27;go_wp2;go_region;all_goals(go_wp2;go_ret;exact⟨rfl,HK.out⟩)
theorem YN{off:Nat}(hp:BPl T size off)(w:World)(cs:Array Value)(hb:Box w g T cs)(hs:cs.size=size)(p:Value)(h0:cs[off]?=some p)(MR:p= .pointer none∨p=bPtr g off)(A:Option Addr)(l s:List UInt8)(h1:cs[off+1]?=some (.slice A n c))
  (Hl:Own w base 5 1 A n c (l.map u8v)) (hne:blk A≠some g) (Hf:base≤w.heap.size) (Bm:n+s.length≤100000000000):
  Calls prog 35 #[.pointer (some ⟨g,off,none⟩),.string (str s)] w fun e w'=>e= .returned (.tuple #[.int .i64 (s.length:Int),.nilIface])∧Wrote w T g off base cs A (l++s) w':=by
 have qq83:=();exact Z1h_
theorem JK{off c' B:Nat}(hp:BPl T size off)(w:World)(cs:Array Value)(hb:Box w g T cs)(hs:cs.size=size)(p:Value)(h0:cs[off]?=some p)(MR:p= .pointer none∨p=bPtr g off)(A A':Option Addr)(l s:List UInt8)(h1:cs[off+1]?=some (.slice A n c))
  (Hl:Own w base 5 1 A n c (l.map u8v)) (hne:blk A≠some g) (Hf:base≤w.heap.size) (hr:RdB w B A' m c' s) (mN:blk A'≠some g) (Bm:n+m≤100000000000):
  Calls prog 46 #[.pointer (some ⟨g,off,none⟩),.slice A' m c'] w fun e w'=>e= .returned (.tuple #[.int .i64 (m:Int),.nilIface])∧Wrote w T g off base cs A (l++s) w':=by
 exact Z1h_
theorem kX{off:Nat}(w:World)(cs:Array Value)(hb:Box w g T cs)(h0:off+1<cs.size):
  Calls prog 24 #[.pointer (some ⟨g,off,none⟩)] w fun e w'=>e= .returned (.tuple #[])∧Box w' g T ((cs.setIfInBounds off (.pointer none)).setIfInBounds (off+1) (.slice none 0 0))∧w.grownBy w' (some g)∧w'.heap.size=w.heap.size:=by
 have hlt:off<cs.size:=by omega
 go_enter func24,ntmps24;go_wp2_with(with_reducible refine h_B ?_);refine zc (xx rfl rfl rfl rfl hb (j:=off) (v:=.pointer none) rfl Wj hlt ?_);intro w1 bL bM cq;have HZ:=Q1 cq;clear cq;have pD:off+1<(cs.setIfInBounds off (.pointer none)).size:=by rw[Array.size_setIfInBounds];exact h0
 go_wp2_with(with_reducible refine h_B ?_);refine zc (xx rfl rfl rfl rfl bL (j:=off+1) (v:=.slice none 0 0) rfl Wj pD ?_);intro w2 bE Hm et;have Mo:=Q1 et;clear et;go_wp2_with(with_reducible refine h_B ?_);go_end0;exact⟨rfl,bE,vz.trans bM Hm,Mo.out.trans HZ.out⟩
theorem qo(x:Int)(w:World):Calls prog 80 #[.int .i64 x] w fun e w'=>e= .returned (.bool (qK x))∧w'=w:=by
 have qq9y:=();exact Z20_
theorem jp(A:Option Addr)(n c:Nat)(l:List UInt8)(A':Option Addr)(n' c':Nat)(l':List UInt8)(w:World)(hb:RdB w w.heap.size A n c l)(mI:RdB w w.heap.size A' n' c' l')(hn:n+n'≤281474976710656):
  Calls prog 99 #[.slice A n c,.slice A' n' c'] w fun e w'=>∃A2,e= .returned (.slice A2 (n+n') (n+n'))∧Own w' w.heap.size 5 1 A2 (n+n') (n+n') ((l++l').map u8v)∧Below w.heap.size w w':=by
 have hl:=hb.length;have lf:=mI.length;go_enter func99,ntmps99;go_wp2_with(with_reducible refine h_A ?_);refine zc (KC slB rfl rfl 0 (n+n') rfl rfl Wq Wq Wq Wq UJ w.heap.size (Q2 _) ?_);intro w1 cY bM;have Ha:Below w.heap.size w w1:=(KL _ _).grown bM (Q2 _) Wz;have cq:=Ha.size;simp only[kx,yA]at cY;go_wp2_with(with_reducible refine h_A ?_);refine zc (Z7 slB rfl rfl rfl rfl cY (hb.below Ha) (zM l) Wq cq ?_);intro w2 bW Hm;have Hc:Below w.heap.size w w2:=Ha.grown Hm cq (fun g hg=>(cY.blk_lt hg).1);have et:=Hc.size;simp only[y0,v0]at bW;go_wp2_with(with_reducible refine h_A ?_);refine zc (Z7 slB rfl rfl rfl rfl bW (mI.below Hc) (zM l') Wq et ?_);intro w3 Bx H7;have Hh:Below w.heap.size w w3:=Hc.grown H7 et (fun g hg=>(bW.blk_lt hg).1);rw[←v1]at Bx;go_wp2_with(with_reducible refine h_A ?_);go_ret;exact⟨_,by first|rfl|simp,by simpa using Bx,Hh⟩
theorem shr8(n k:Nat):(n:Int) / 2 ^ (8*k) % 256=(((KS (n / 256 ^ k)).toNat:Nat):Int):=by
 rw[UInt8.toNat_ofNat',show(256:Nat) ^ k=2 ^ (8*k) by rw[Nat.pow_mul]];rw[Int.natCast_emod,Int.natCast_ediv,Int.natCast_pow];rfl
theorem ka(n i:Nat)(w:World)(_hn:n<18446744073709551616)(hi:1≤i)(hi8:i≤8):
  Calls prog 100 #[.int .u64 n,.int .i64 i] w fun e w'=>∃A2,e= .returned (.slice A2 i i)∧Own w' w.heap.size 5 1 A2 i i ((be i n).map u8v)∧Below w.heap.size w w':=by
 go_enter func100,ntmps100;go_wp2_with(with_reducible refine h_A ?_);refine zc (KC slB rfl rfl i i rfl rfl Wq Wq (Q2 _) Wq UJ w.heap.size (Q2 _) ?_);intro w1 cY bM;have Ha:Below w.heap.size w w1:=(KL _ _).grown bM (Q2 _) Wz;have cq:=Ha.size
 have wu:(madeCells (Value.int .u8 0).cells (i*1)).toList.take (i*1)=(y1 (i-0) 0++be 0 n).map u8v:=by
  simp[Value.cells,toList_madeCells_one,u8v,be]
 rw[wu]at cY;go_wp2_with(with_reducible refine h_A ?_);go_loopw [11] (fun x wr=>∃k:Nat,k≤i∧x= .int .i64 k∧Own wr w.heap.size 5 1 (some ⟨w.heap.size,0,none⟩) i i ((y1 (i-k) 0++be k n).map u8v)∧Below w.heap.size w wr) (fun x _=>i-(K2 x).toNat)
 case atStart=>exact⟨0,by omega,rfl,cY,Ha⟩
 obtain⟨k,hk,rfl,ho,hB⟩:=hrel;by_cases hlt:k<i
 ·obtain⟨g,cf,eP,fB,bK,eC,Eb,bR⟩:=OwnB.at_k ho (k:=i-1-k) Wq;obtain rfl:w.heap.size=g:=by injection cf with h;injection h
  have h1:=bR (KS (n / 256 ^ k));rw[zc2 i n k hlt]at h1;have e8:=shr8 n k;unfold u8v at h1;rw[←e8]at h1;clear bR e8;go_wp2_with(with_reducible refine h_A ?_);exact⟨⟨k+1,by omega,by go_num,h1,hB.setCell Wq _⟩,by simp[K2];omega⟩
 obtain rfl:k=i:=by omega
 rw[Nat.sub_self,List.replicate_zero,v0]at ho;go_wp2_with(with_reducible refine h_A ?_);go_ret;exact⟨_,rfl,ho,hB⟩
theorem yR(A:Option Addr)(n c:Nat)(l:List UInt8)(v:Nat)(x:Int)(w:World)(hb:RdB w w.heap.size A n c l)(hv:v<18446744073709551616)(hn:n≤281474976710600):
  Calls prog 63 #[.slice A n c,.int .u64 v,.int .i64 x] w fun e w'=>∃A2 c2,e= .returned (.slice A2 (puts l v x).length c2)∧Own w' w.heap.size 5 1 A2 (puts l v x).length c2 ((puts l v x).map u8v)∧Below w.heap.size w w':=by
 have hl:=hb.length;by_cases hw:qK x=true
 ·have h8:=j7 hw;obtain⟨i,rfl⟩:∃i:Nat,x=i:=⟨x.toNat,by omega⟩
  rw[yV hw];simp only[y2,zr,Int.toNat_natCast,hl];go_enter func63,ntmps63;go_wp2_with(with_reducible refine h_A ?_);refine(qo i w).mono ?_;rw[hw];rintro e w' ⟨rfl,rfl⟩;go_wp2_with(with_reducible refine h_A ?_);refine(ka v i w' hv Wq Wq).mono ?_;rintro e w1 ⟨A1,rfl,cY,Ha⟩;go_wp2_with(with_reducible refine h_A ?_);refine(jp A n c l A1 i i (be i v) w1 ((hb.below Ha).more Ha.size) cY.rd Wq).mono ?_;rintro e w2 ⟨A2,rfl,bW,Hc⟩;go_wp2_with(with_reducible refine h_A ?_);go_ret;exact⟨A2,n+i,rfl,bW.base_le Ha.size,Ha.trans (Hc.mono Ha.size)⟩
 have nu:qK x=false:=by simpa using hw
 rw[Kz nu];rw[hl];go_enter func63,ntmps63;go_wp2_with(with_reducible refine h_A ?_);refine(qo x w).mono ?_;rw[nu];rintro e w' ⟨rfl,rfl⟩;go_wp2_with(with_reducible refine h_A ?_);refine(jp A n c l none 0 0 [] w' hb (Rd.nil _ _ _ _ WX _) Wq).mono ?_;rintro e w2 ⟨A2,rfl,bW,Hc⟩;simp only[k6,y3]at bW ⊢;go_wp2_with(with_reducible refine h_A ?_);go_ret;exact⟨A2,n,rfl,bW,Hc⟩
def frV(f:Fr):Array Value:=#[.bool f.first,.bool f.last,.bool f.beg,.bool f.fin,.int .u8 (f.ty:Int),.int .u8 (f.track:Int),.int .u16 (f.chan:Int),.string (str f.load)]
theorem Zo(f:Fr)(w:World)(hw:f.wf)(hl:f.load.length≤140737488351232):
  Calls prog 62 #[.agg (frV f)] w fun e w'=>e= .returned (.int .i64 f.err)∧Below w.heap.size w w':=by
 exact Z1g_
def zbQ(l:List Value):Option (DataW Unit×List MemPlace):=match l with| [.bool x]=>some (.lit (.bool x),[])|_=>none
def Zp(v:Value):Option (DataW Unit×List MemPlace):=match v with| .agg cs=>zbQ cs.toList|_=>none
theorem j9:Maps.Keyed prog 5:=Maps.int_keyed underlying5
def zaI(b1 b2 b3 b4:Bool):DataW Unit:=.map [(.int .u8 1,.lit (.bool b4)),(.int .u8 2,.lit (.bool b3)),(.int .u8 4,.lit (.bool b2)),(.int .u8 8,.lit (.bool b1))]
theorem zaJ(b1 b2 b3 b4:Bool):(((((DataW.map []:DataW Unit).put (.int .u8 8) (.lit (.bool b1))).put (.int .u8 4) (.lit (.bool b2))).put (.int .u8 2) (.lit (.bool b3))).put (.int .u8 1) (.lit (.bool b4)))=zaI b1 b2 b3 b4:=by rfl
theorem zaK{c:Bool}(h:∀zd,(zaI b1 b2 b3 b4).atKey (.int .u8 x) zd= .lit (.bool c)):(x=8∧c=b1)∨(x=4∧c=b2)∨(x=2∧c=b3)∨(x=1∧c=b4):=by
 by_cases h8:x=8
 ·subst h8;have:=h .nil;left;exact⟨rfl,by cases b1<;>cases c<;>first|rfl|cases this⟩
 by_cases h4:x=4
 ·subst h4;have:=h .nil;right;left;exact⟨rfl,by cases b2<;>cases c<;>first|rfl|cases this⟩
 by_cases h2:x=2
 ·subst h2;have:=h .nil;right;right;left;exact⟨rfl,by cases b3<;>cases c<;>first|rfl|cases this⟩
 by_cases h1:x=1
 ·subst h1;have:=h .nil;right;right;right;exact⟨rfl,by cases b4<;>cases c<;>first|rfl|cases this⟩
 have e:∀zd,(zaI b1 b2 b3 b4).atKey (.int .u8 x) zd=zd:=fun zd=>WideAt.atKey_none zd (fun p hp=>by
  simp only[List.mem_cons,List.not_mem_nil,or_false]at hp
  rcases hp with rfl|rfl|rfl|rfl<;>simp<;>omega)
 have h1:=h .nil;rw[e]at h1
 cases h1
def bsum(l8 l4 l2 l1 b1 b2 b3 b4:Bool):Nat:=bitv (!l8&&b1) 8+bitv (!l4&&b2) 4+bitv (!l2&&b3) 2+bitv (!l1&&b4) 1
theorem Xg(v:Value)(y:DataW Unit×List MemPlace)(h:Zp v=some y):∃c:Bool,v= .agg #[.bool c]∧y=(.lit (.bool c),[]):=by
 unfold Zp at h;split at h
 ·rename_i cs
  unfold zbQ at h;split at h
  ·rename_i x hx
   (injection h with h);exact⟨x,by rw[←Array.toArray_toList (xs:=cs),hx],h.symm⟩
  cases h
 cases h
theorem zY{a b:Int}:(Lit.int .u8 a).sameKey (.int .u8 b)=decide (a=b):=by
 by_cases h:a=b
 ·subst h;simp[Lit.sameKey]
 simp[Lit.sameKey,h]
theorem QW:∀(l8 l4 l2 l1 b1 b2 b3 b4:Bool),
  (l8=true→b1=true→bits .or .u8 (bsum l8 l4 l2 l1 b1 b2 b3 b4:Int) 8=(bsum false l4 l2 l1 b1 b2 b3 b4:Int))∧
  (l4=true→b2=true→bits .or .u8 (bsum l8 l4 l2 l1 b1 b2 b3 b4:Int) 4=(bsum l8 false l2 l1 b1 b2 b3 b4:Int))∧
  (l2=true→b3=true→bits .or .u8 (bsum l8 l4 l2 l1 b1 b2 b3 b4:Int) 2=(bsum l8 l4 false l1 b1 b2 b3 b4:Int))∧
  (l1=true→b4=true→bits .or .u8 (bsum l8 l4 l2 l1 b1 b2 b3 b4:Int) 1=(bsum l8 l4 l2 false b1 b2 b3 b4:Int)):=by
 decide+kernel
theorem KD(f:Fr)(w:World):
  Calls prog 64 #[.agg (frV f)] w fun e w'=>e= .returned (.int .u8 f.flags)∧Below w.heap.size w w':=by
 obtain⟨b1,b2,b3,b4,ty,tr,ch,ld⟩:=f;unfold frV;have Hr:Below w.heap.size w (w.alloc (.cells #[.bool b1,.bool b2,.bool b3,.bool b4,.int .u8 (ty:Int),.int .u8 (tr:Int),.int .u16 (ch:Int),.string (str ld)] 97)):=(KL _ _).alloc (Q2 _) _;have ik:∀i u,(#[.bool b1,.bool b2,.bool b3,.bool b4,.int .u8 (ty:Int),.int .u8 (tr:Int),.int .u16 (ch:Int),.string (str ld)]:Array Value)[i]?=some u→(w.alloc (.cells #[.bool b1,.bool b2,.bool b3,.bool b4,.int .u8 (ty:Int),.int .u8 (tr:Int),.int .u16 (ch:Int),.string (str ld)] 97)).cell? ⟨w.heap.size,i,none⟩=some u:=fun i u h=>(K0 _ _ _ _).trans h
 have nE:=fun W=>run_makeMap (P:=prog) 183 W
 have c0:=ik 0 _ rfl;have c1:=ik 1 _ rfl;have c2:=ik 2 _ rfl;have c3:=ik 3 _ rfl;clear ik;go_enter func64,ntmps64
 have H4:((w.alloc (.cells #[.bool b1,.bool b2,.bool b3,.bool b4,.int .u8 (ty:Int),.int .u8 (tr:Int),.int .u16 (ch:Int),.string (str ld)] 97)).alloc (.map #[] 0)).ownsMap prog 5 Zp (w.heap.size+1) 0 (.map []):=by
  have:=y4 (w.alloc (.cells #[.bool b1,.bool b2,.bool b3,.bool b4,.int .u8 (ty:Int),.int .u8 (tr:Int),.int .u16 (ch:Int),.string (str ld)] 97)) prog 5 Zp;rwa[show(w.alloc (.cells #[.bool b1,.bool b2,.bool b3,.bool b4,.int .u8 (ty:Int),.int .u8 (tr:Int),.int .u16 (ch:Int),.string (str ld)] 97)).heap.size=w.heap.size+1 by simp]at this
 have Ha:Below w.heap.size w ((w.alloc (.cells #[.bool b1,.bool b2,.bool b3,.bool b4,.int .u8 (ty:Int),.int .u8 (tr:Int),.int .u16 (ch:Int),.string (str ld)] 97)).alloc (.map #[] 0)):=Hr.alloc Hr.size _;have se:w.heap.size<(w.alloc (.cells #[.bool b1,.bool b2,.bool b3,.bool b4,.int .u8 (ty:Int),.int .u8 (tr:Int),.int .u16 (ch:Int),.string (str ld)] 97)).heap.size:=by simp
 have d1:=(v2 (w:=w.alloc (.cells #[.bool b1,.bool b2,.bool b3,.bool b4,.int .u8 (ty:Int),.int .u8 (tr:Int),.int .u16 (ch:Int),.string (str ld)] 97)) (.map #[] 0) _ _ se).trans c1;have d2:=(v2 (w:=w.alloc (.cells #[.bool b1,.bool b2,.bool b3,.bool b4,.int .u8 (ty:Int),.int .u8 (tr:Int),.int .u16 (ch:Int),.string (str ld)] 97)) (.map #[] 0) _ _ se).trans c2;have d3:=(v2 (w:=w.alloc (.cells #[.bool b1,.bool b2,.bool b3,.bool b4,.int .u8 (ty:Int),.int .u8 (tr:Int),.int .u16 (ch:Int),.string (str ld)] 97)) (.map #[] 0) _ _ se).trans c3;go_wp2_with(with_reducible refine h_M ?_);refine zc (zl (H:=Unit) _ rfl _ _ _ 183 rfl 5 182 j9 underlying183 Zp _ _ _ rfl H4 WX _ _ (.int .u8 8) rfl rfl (Maps.keyOf_int_mk underlying5 WJ) (.lit (.bool b1)) [] rfl ?_);intro w2 Bl Hm;have hne:some w.heap.size=some (w.heap.size+1)→False:=fun e=>by injection e with e;omega
 have Hc:=Ha.grown Hm Ha.size Wx;have e1:=Hm.cell d1 hne;have e2:=Hm.cell d2 hne;have e3:=Hm.cell d3 hne;clear d1 d2 d3 c0 c1 c2 c3;go_wp2_with(with_reducible refine h_M ?_);refine zc (zl (H:=Unit) _ rfl _ _ _ 183 rfl 5 182 j9 underlying183 Zp _ _ _ rfl Bl WX _ _ (.int .u8 4) rfl rfl (Maps.keyOf_int_mk underlying5 WJ) (.lit (.bool b2)) [] rfl ?_);intro w3 Dx H7;have Hh:=Hc.grown H7 Hc.size Wx;have f2:=H7.cell e2 hne;have f3:=H7.cell e3 hne;clear e1 e2 e3 Bl Hm;go_wp2_with(with_reducible refine h_M ?_);refine zc (zl (H:=Unit) _ rfl _ _ _ 183 rfl 5 182 j9 underlying183 Zp _ _ _ rfl Dx WX _ _ (.int .u8 2) rfl rfl (Maps.keyOf_int_mk underlying5 WJ) (.lit (.bool b3)) [] rfl ?_);intro w4 CL Bb;have Hn:=Hh.grown Bb Hh.size Wx;have g3:=Bb.cell f3 hne;clear f2 f3 Dx H7;go_wp2_with(with_reducible refine h_M ?_);refine zc (zl (H:=Unit) _ rfl _ _ _ 183 rfl 5 182 j9 underlying183 Zp _ _ _ rfl CL WX _ _ (.int .u8 1) rfl rfl (Maps.keyOf_int_mk underlying5 WJ) (.lit (.bool b4)) [] rfl ?_);intro w5 Bu bc;have bz:=Hn.grown bc Hn.size Wx;clear g3 CL Bb bc Hn Hh Hc Ha Hr H4;rw[zaJ]at Bu;have cH:w.heap.size+1<w5.heap.size:=Bu.lt;go_wp2_with(with_reducible refine h_M ?_);refine zc (wpList_range_own (H:=Unit) _ rfl _ 183 rfl 5 182 j9 underlying183 Zp _ _ _ rfl Bu ?_);intro w6 PW bm Aw;have bH:=bz.grown bm bz.size (fun g hg=>by cases hg);go_frame;go_wp2_with(with_reducible refine h_A ?_);try go_frame
 go_loopw [3] (fun s wr=>∃(left:Lit→Bool) (cnt:Nat) (l8 l4 l2 l1:Bool) (m:Nat),left (.int .u8 8)=l8∧left (.int .u8 4)=l4∧left (.int .u8 2)=l2∧left (.int .u8 1)=l1∧s= .int .u8 m∧m=bsum l8 l4 l2 l1 b1 b2 b3 b4∧wr.ranges prog 5 Zp (w.heap.size+1) w5.heap.size 4 (zaI b1 b2 b3 b4) left cnt∧Below w.heap.size w wr) (fun _ wr=>wr.rangeLeft (w.heap.size+1) w5.heap.size)
 case atStart=>exact⟨_,_,true,true,true,true,0,rfl,rfl,rfl,rfl,rfl,rfl,PW,bH⟩
 obtain⟨left,cnt,l8,l4,l2,l1,m,ss,Ac,cR,gg,rfl,hm,mN,bO⟩:=hrel;have HM:=Q1 hm;clear hm;go_wp2_with(with_reducible refine h_M ?_);refine zc (wpList_next_ranges (H:=Unit) (α:=Int) (β:=Bool) _ rfl _ rfl 5 j9 Zp (Value.int .u8) (fun x=>.agg #[.bool x]) (fun key kl hk=>by obtain⟨x,rfl,_⟩:=Maps.keyOf_int_inv underlying5 hk;exact⟨x,rfl⟩) (fun v y hv=>by obtain⟨c,rfl,_⟩:=Xg v y hv;exact⟨c,rfl⟩) _ _ _ _ _ _ rfl mN ?_ ?_)
 ·intro _ fE
  have Cp:m=Fr.flags ⟨b1,b2,b3,b4,ty,tr,ch,ld⟩:=by
   rw[HM.out,←ss,←Ac,←cR,←gg,fE,fE,fE,fE];simp[bsum,Fr.flags]
  have HF:=Q1 Cp;clear Cp;go_wp2_with(with_reducible refine h_A ?_);go_ret;rw[←HF.out];exact⟨rfl,bO⟩
 intro x c kl y w7 ou eI Df hy fd Pe i4 H9 wh bZ;obtain⟨x',ex,rfl,gh⟩:=Maps.keyOf_int_inv underlying5 eI
 cases ex;obtain⟨c',ec,rfl⟩:=Xg _ _ hy;obtain rfl:c'=c:=by simpa using ec.symm
 have Bq:=bO.grown H9 bO.size Wx;have Be:Below w.heap.size w (w7.alloc (.cells #[.bool c'] 182)):=Bq.alloc Bq.size _;have f9:=Pe.alloc (.cells #[.bool c'] 182);have LT:=zaK fd;clear fd hy ec eI;rcases LT with⟨rfl,Bs⟩|⟨rfl,Bs⟩|⟨rfl,Bs⟩|⟨rfl,Bs⟩
 ·skip
  have hlt:l8=true:=by rw[←ss];exact Df
  clear Df;subst hlt
  cases c'
  ·(have fR:m=bsum false l4 l2 l1 b1 b2 b3 b4:=by rw[HM.out,←Bs];simp[bsum,bitv]);have HS:=Q1 fR;clear fR Bs;go_wp2_with(with_reducible refine h_A ?_);refine⟨⟨_,ou,false,l4,l2,l1,m,by simp[zY,ss],by simp[zY,Ac],by simp[zY,cR],by simp[zY,gg],rfl,HS.out,f9,Be⟩,?_⟩;rw[f9.left_eq,mN.left_eq];exact i4
  have fX:=(QW true l4 l2 l1 b1 b2 b3 b4 |>.1) rfl Bs.symm;rw[←HM.out]at fX;obtain⟨m2,dU⟩:∃m2,m2=bsum false l4 l2 l1 b1 b2 b3 b4:=⟨_,rfl⟩
  rw[←dU]at fX;have HS:=Q1 dU;clear dU Bs;go_wp2_with(with_reducible refine h_A ?_);refine⟨⟨_,ou,false,l4,l2,l1,m2,by simp[zY,ss],by simp[zY,Ac],by simp[zY,cR],by simp[zY,gg],by first|rfl|(simp;done)|(simp[fX];done),HS.out,f9,Be⟩,?_⟩;rw[f9.left_eq,mN.left_eq];exact i4
 ·skip
  have hlt:l4=true:=by rw[←Ac];exact Df
  clear Df;subst hlt
  cases c'
  ·(have fR:m=bsum l8 false l2 l1 b1 b2 b3 b4:=by rw[HM.out,←Bs];simp[bsum,bitv]);have HS:=Q1 fR;clear fR Bs;go_wp2_with(with_reducible refine h_A ?_);refine⟨⟨_,ou,l8,false,l2,l1,m,by simp[zY,ss],by simp[zY,Ac],by simp[zY,cR],by simp[zY,gg],rfl,HS.out,f9,Be⟩,?_⟩;rw[f9.left_eq,mN.left_eq];exact i4
  have fX:=(QW l8 true l2 l1 b1 b2 b3 b4 |>.2.1) rfl Bs.symm;rw[←HM.out]at fX;obtain⟨m2,dU⟩:∃m2,m2=bsum l8 false l2 l1 b1 b2 b3 b4:=⟨_,rfl⟩
  rw[←dU]at fX;have HS:=Q1 dU;clear dU Bs;go_wp2_with(with_reducible refine h_A ?_);refine⟨⟨_,ou,l8,false,l2,l1,m2,by simp[zY,ss],by simp[zY,Ac],by simp[zY,cR],by simp[zY,gg],by first|rfl|(simp;done)|(simp[fX];done),HS.out,f9,Be⟩,?_⟩;rw[f9.left_eq,mN.left_eq];exact i4
 ·skip
  have hlt:l2=true:=by rw[←cR];exact Df
  clear Df;subst hlt
  cases c'
  ·(have fR:m=bsum l8 l4 false l1 b1 b2 b3 b4:=by rw[HM.out,←Bs];simp[bsum,bitv]);have HS:=Q1 fR;clear fR Bs;go_wp2_with(with_reducible refine h_A ?_);refine⟨⟨_,ou,l8,l4,false,l1,m,by simp[zY,ss],by simp[zY,Ac],by simp[zY,cR],by simp[zY,gg],rfl,HS.out,f9,Be⟩,?_⟩;rw[f9.left_eq,mN.left_eq];exact i4
  have fX:=(QW l8 l4 true l1 b1 b2 b3 b4 |>.2.2.1) rfl Bs.symm;rw[←HM.out]at fX;obtain⟨m2,dU⟩:∃m2,m2=bsum l8 l4 false l1 b1 b2 b3 b4:=⟨_,rfl⟩
  rw[←dU]at fX;have HS:=Q1 dU;clear dU Bs;go_wp2_with(with_reducible refine h_A ?_);refine⟨⟨_,ou,l8,l4,false,l1,m2,by simp[zY,ss],by simp[zY,Ac],by simp[zY,cR],by simp[zY,gg],by first|rfl|(simp;done)|(simp[fX];done),HS.out,f9,Be⟩,?_⟩;rw[f9.left_eq,mN.left_eq];exact i4
 skip
 have hlt:l1=true:=by rw[←gg];exact Df
 clear Df;subst hlt
 cases c'
 ·have fR:m=bsum l8 l4 l2 false b1 b2 b3 b4:=by rw[HM.out,←Bs];simp[bsum,bitv]
  have HS:=Q1 fR;clear fR Bs;go_wp2_with(with_reducible refine h_A ?_);refine⟨⟨_,ou,l8,l4,l2,false,m,by simp[zY,ss],by simp[zY,Ac],by simp[zY,cR],by simp[zY,gg],rfl,HS.out,f9,Be⟩,?_⟩;rw[f9.left_eq,mN.left_eq];exact i4
 have fX:=(QW l8 l4 l2 true b1 b2 b3 b4 |>.2.2.2) rfl Bs.symm;rw[←HM.out]at fX;obtain⟨m2,dU⟩:∃m2,m2=bsum l8 l4 l2 false b1 b2 b3 b4:=⟨_,rfl⟩
 rw[←dU]at fX;have HS:=Q1 dU;clear dU Bs;go_wp2_with(with_reducible refine h_A ?_);refine⟨⟨_,ou,l8,l4,l2,false,m2,by simp[zY,ss],by simp[zY,Ac],by simp[zY,cR],by simp[zY,gg],by first|rfl|(simp;done)|(simp[fX];done),HS.out,f9,Be⟩,?_⟩;rw[f9.left_eq,mN.left_eq];exact i4
theorem jz{bx:Nat}{row:Option Nat}(h:w.cell? ⟨bx,0,none⟩=some (.bool b1)∧w.cell? ⟨bx,1,none⟩=some (.bool b2)∧w.cell? ⟨bx,2,none⟩=some (.bool b3)∧w.cell? ⟨bx,3,none⟩=some (.bool b4)∧w.cell? ⟨bx,4,none⟩=some (.int .u8 (ty:Int))∧w.cell? ⟨bx,5,none⟩=some (.int .u8 (tr:Int))∧w.cell? ⟨bx,6,none⟩=some (.int .u16 (ch:Int))∧w.cell? ⟨bx,7,none⟩=some (.string (str ld)))(hg:w.grownBy w' row)(hne:some bx=row→False):w'.cell? ⟨bx,0,none⟩=some (.bool b1)∧w'.cell? ⟨bx,1,none⟩=some (.bool b2)∧w'.cell? ⟨bx,2,none⟩=some (.bool b3)∧w'.cell? ⟨bx,3,none⟩=some (.bool b4)∧w'.cell? ⟨bx,4,none⟩=some (.int .u8 (ty:Int))∧w'.cell? ⟨bx,5,none⟩=some (.int .u8 (tr:Int))∧w'.cell? ⟨bx,6,none⟩=some (.int .u16 (ch:Int))∧w'.cell? ⟨bx,7,none⟩=some (.string (str ld)):=by
 obtain⟨h0,h1,h2,h3,h4,h5,h6,h7⟩:=h;exact⟨hg.cell h0 hne,hg.cell h1 hne,hg.cell h2 hne,hg.cell h3 hne,hg.cell h4 hne,hg.cell h5 hne,hg.cell h6 hne,hg.cell h7 hne⟩
theorem zaL(h:Below w.heap.size w w'):w.grownBy w' none:=⟨h.os,h.tape,h.output,h.size,fun k hk _=>h.block k hk⟩
theorem yX{bx:Nat}(h:w.cell? ⟨bx,0,none⟩=some (.bool b1)∧w.cell? ⟨bx,1,none⟩=some (.bool b2)∧w.cell? ⟨bx,2,none⟩=some (.bool b3)∧w.cell? ⟨bx,3,none⟩=some (.bool b4)∧w.cell? ⟨bx,4,none⟩=some (.int .u8 (ty:Int))∧w.cell? ⟨bx,5,none⟩=some (.int .u8 (tr:Int))∧w.cell? ⟨bx,6,none⟩=some (.int .u16 (ch:Int))∧w.cell? ⟨bx,7,none⟩=some (.string (str ld)))(hB:Below w.heap.size w w'):w'.cell? ⟨bx,0,none⟩=some (.bool b1)∧w'.cell? ⟨bx,1,none⟩=some (.bool b2)∧w'.cell? ⟨bx,2,none⟩=some (.bool b3)∧w'.cell? ⟨bx,3,none⟩=some (.bool b4)∧w'.cell? ⟨bx,4,none⟩=some (.int .u8 (ty:Int))∧w'.cell? ⟨bx,5,none⟩=some (.int .u8 (tr:Int))∧w'.cell? ⟨bx,6,none⟩=some (.int .u16 (ch:Int))∧w'.cell? ⟨bx,7,none⟩=some (.string (str ld)):=jz h (zaL hB) Wz
theorem KE:(fun bx wx=>wx.cell? ⟨bx,0,none⟩=some (.bool b1)∧wx.cell? ⟨bx,1,none⟩=some (.bool b2)∧wx.cell? ⟨bx,2,none⟩=some (.bool b3)∧wx.cell? ⟨bx,3,none⟩=some (.bool b4)∧wx.cell? ⟨bx,4,none⟩=some (.int .u8 (ty:Int))∧wx.cell? ⟨bx,5,none⟩=some (.int .u8 (tr:Int))∧wx.cell? ⟨bx,6,none⟩=some (.int .u16 (ch:Int))∧wx.cell? ⟨bx,7,none⟩=some (.string (str ld))) w.heap.size (w.alloc (.cells #[.bool b1,.bool b2,.bool b3,.bool b4,.int .u8 (ty:Int),.int .u8 (tr:Int),.int .u16 (ch:Int),.string (str ld)] 97)):=
 ⟨K0 _ _ _ _,K0 _ _ _ _,K0 _ _ _ _,K0 _ _ _ _,K0 _ _ _ _,K0 _ _ _ _,K0 _ _ _ _,K0 _ _ _ _⟩
theorem zc4{b:List UInt8}{v:Nat}:puts b v 2=b++be 2 v:=yV WJ
theorem zdG{b:List UInt8}{v:Nat}:puts b v 4=b++be 4 v:=yV WJ
theorem JG{v:Nat}(h:v<256):(.int .u8 (v:Int):Value)=u8v (KS v):=by simp[u8v];omega
theorem zaM(f:Fr)(w:World)(hw:f.wf)(hl:f.load.length≤140737488351232):
  Calls prog 45 #[.agg (frV f)] w fun e w'=>∃A2 c2,e= .returned (.tuple #[.slice A2 f.put.length c2,.int .i64 f.err])∧Own w' w.heap.size 5 1 A2 f.put.length c2 (f.put.map u8v)∧Below w.heap.size w w':=by
 have Ba:=fun W=>Zo f W hw hl
 have dm:=fun W=>KD f W
 have Eu:=f.flags_lt
 cases bJ:f.ok
 ·exact Z2a_
 have e1:f.put=f.bytes:=by simp[Fr.put,bJ]
 have e2:f.err=0:=by simp[Fr.err,bJ]
 have BD:f.load.length≤4084:=by simp[Fr.ok]at bJ;omega
 have md:Hid (f.bytes=((([KS f.flags,KS f.ty]++be 2 (12+f.load.length))++ [0,KS f.track])++be 2 f.chan)++be 4 0++f.load):=Q1 (by rw[Fr.bytes];simp only[List.append_assoc];rfl);rw[e1,e2];rw[e2]at Ba;clear bJ e1 e2 hl;generalize f.flags=fl at*;generalize dX:f.bytes=by_ at*;clear dX;obtain⟨b1,b2,b3,b4,ty,tr,ch,ld⟩:=f;unfold frV at Ba dm ⊢;obtain⟨mr,lp,ii⟩:=hw;simp only at Ba BD md mr lp ii dm;have Hr:Below w.heap.size w (w.alloc (.cells #[.bool b1,.bool b2,.bool b3,.bool b4,.int .u8 (ty:Int),.int .u8 (tr:Int),.int .u16 (ch:Int),.string (str ld)] 97)):=(KL _ _).alloc (Q2 _) _;have dd:=KE (w:=w) (b1:=b1) (b2:=b2) (b3:=b3) (b4:=b4) (ty:=ty) (tr:=tr) (ch:=ch) (ld:=ld);simp only at dd;have dr:=zh ld;go_enter func45,ntmps45;go_wp2_with(with_reducible refine h_A ?_);refine(Ba _).mono ?_;rintro e w1 ⟨rfl,Ha⟩;have Hc:=Hr.trans (Ha.mono Hr.size);have bL:=yX dd Ha;clear dd Hr Ha Ba;have AM:IntKind.i64.wrap (12+(ld.length:Int))=((12+ld.length:Nat):Int):=by rw[IntWalk.i64_in _ ⟨by omega,by omega⟩];omega
 have EI:IntKind.u64.wrap ((12+ld.length:Nat):Int)=((12+ld.length:Nat):Int):=IntWalk.u64_in _ ⟨by omega,by omega⟩;obtain⟨sK,pQ⟩:∃sK,sK=12+ld.length:=⟨_,rfl⟩
 rw[←pQ]at AM EI md;have hL:=Q1 pQ;have wO:sK<65536:=by omega
 clear pQ;have BH:w1.drew.cell? ⟨w.heap.size,0,none⟩=some (.bool b1)∧w1.drew.cell? ⟨w.heap.size,1,none⟩=some (.bool b2)∧w1.drew.cell? ⟨w.heap.size,2,none⟩=some (.bool b3)∧w1.drew.cell? ⟨w.heap.size,3,none⟩=some (.bool b4)∧w1.drew.cell? ⟨w.heap.size,4,none⟩=some (.int .u8 (ty:Int))∧w1.drew.cell? ⟨w.heap.size,5,none⟩=some (.int .u8 (tr:Int))∧w1.drew.cell? ⟨w.heap.size,6,none⟩=some (.int .u16 (ch:Int))∧w1.drew.cell? ⟨w.heap.size,7,none⟩=some (.string (str ld)):=bL;go_wp2_with(with_reducible refine h_A ?_);refine zt (fun wx=>wx.cell? ⟨w.heap.size,0,none⟩=some (.bool b1)∧wx.cell? ⟨w.heap.size,1,none⟩=some (.bool b2)∧wx.cell? ⟨w.heap.size,2,none⟩=some (.bool b3)∧wx.cell? ⟨w.heap.size,3,none⟩=some (.bool b4)∧wx.cell? ⟨w.heap.size,4,none⟩=some (.int .u8 (ty:Int))∧wx.cell? ⟨w.heap.size,5,none⟩=some (.int .u8 (tr:Int))∧wx.cell? ⟨w.heap.size,6,none⟩=some (.int .u16 (ch:Int))∧wx.cell? ⟨w.heap.size,7,none⟩=some (.string (str ld))) Wj ?_;refine rg_t 0 BH ?_;simp only[Vy,VB,Act.put,Vx,q5,q6];refine rg_t 2 BH ?_;simp only[g_S];refine rg_t 3 BH ?_;simp only[g_S];refine rg_t 5 BH ?_;simp only[g_S];refine rg_t 6 BH ?_;simp only[g_S];refine rg_t 7 BH ?_;simp only[g_S];refine rg_t 8 BH ?_;simp only[g_S];refine rg_t 9 BH ?_;simp only[g_S];refine zj 1 rfl Wj rfl (fun K hK=>?_);go_simp;refine(dm w1.drew).mono ?_;rintro e w2 ⟨rfl,io⟩;have Hh:=(za Hc 1).trans (io.mono Hc.size);have BI:=yX BH io;refine hK _ _ BI ?_;clear hK K;have et:w.heap.size+1≤w2.heap.size:=K1 _ _ BI.1
 have CH:Own (w2.alloc (.cells #[.int .u8 (fl:Int),.int .u8 (ty:Int)] 5)) (w.heap.size+1) 5 1 (some ⟨w2.heap.size,0,none⟩) 2 2 ([KS fl,KS ty].map u8v):=by
  have h:=yq (w:=w2) (w.heap.size+1) #[.int .u8 (fl:Int),.int .u8 (ty:Int)] 5 2 et WX rfl (size:=1) Wq;rw[JG (show fl<256 by omega),JG mr]at h ⊢;exact h
 have Hn:Below w.heap.size w (w2.alloc (.cells #[.int .u8 (fl:Int),.int .u8 (ty:Int)] 5)):=Hh.alloc Hh.size _;have uo:=yX BI ((KL w2.heap.size w2).alloc (Q2 _) (.cells #[.int .u8 (fl:Int),.int .u8 (ty:Int)] 5));have lQ:=yR (some ⟨w2.heap.size,0,none⟩) 2 2 [KS fl,KS ty] sK 2 _ CH.rd Wq Wq;rw[zc4]at lQ;have gg:([KS fl,KS ty]++be 2 sK).length=4:=by simp[zr]
 rw[gg]at lQ;generalize [KS fl,KS ty]++be 2 sK=o1 at*;refine zj 4 rfl Wj rfl (fun K hK=>?_);go_simp;refine hK _ _ uo ?_;clear hK K;refine zj 10 rfl Wj rfl (fun K hK=>?_);go_simp;refine lQ.mono ?_;rintro e w5 ⟨A5,c5,rfl,ct,hBp⟩;have bz:=Hn.trans (hBp.mono Hn.size);have BL:=yX uo hBp;have fY:w.heap.size+1≤w5.heap.size:=K1 _ _ BL.1;have lV:=ct.base_le (show w.heap.size+1≤(w2.alloc (.cells #[.int .u8 (fl:Int),.int .u8 (ty:Int)] 5)).heap.size by simp;omega);refine hK _ _ BL ?_;clear hK K;refine rg_t 11 BL ?_;simp only[g_S];refine zD Wj ?_;clear lQ CH Hn uo BI BH bL Hh hBp ct Hc;have oZ:w5.drew.cell? ⟨w.heap.size,0,none⟩=some (.bool b1)∧w5.drew.cell? ⟨w.heap.size,1,none⟩=some (.bool b2)∧w5.drew.cell? ⟨w.heap.size,2,none⟩=some (.bool b3)∧w5.drew.cell? ⟨w.heap.size,3,none⟩=some (.bool b4)∧w5.drew.cell? ⟨w.heap.size,4,none⟩=some (.int .u8 (ty:Int))∧w5.drew.cell? ⟨w.heap.size,5,none⟩=some (.int .u8 (tr:Int))∧w5.drew.cell? ⟨w.heap.size,6,none⟩=some (.int .u16 (ch:Int))∧w5.drew.cell? ⟨w.heap.size,7,none⟩=some (.string (str ld)):=BL;have MY:Own w5.drew (w.heap.size+1) 5 1 A5 4 c5 (o1.map u8v):=lV;have Fv:=za bz 1;go_wp2_with(with_reducible refine h_A ?_);refine zt (fun wx=>wx.cell? ⟨w.heap.size,0,none⟩=some (.bool b1)∧wx.cell? ⟨w.heap.size,1,none⟩=some (.bool b2)∧wx.cell? ⟨w.heap.size,2,none⟩=some (.bool b3)∧wx.cell? ⟨w.heap.size,3,none⟩=some (.bool b4)∧wx.cell? ⟨w.heap.size,4,none⟩=some (.int .u8 (ty:Int))∧wx.cell? ⟨w.heap.size,5,none⟩=some (.int .u8 (tr:Int))∧wx.cell? ⟨w.heap.size,6,none⟩=some (.int .u16 (ch:Int))∧wx.cell? ⟨w.heap.size,7,none⟩=some (.string (str ld))) Wj ?_;refine rg_t 0 oZ ?_;simp only[Vy,VB,Act.put,Vx,q5,q6];refine rg_t 1 oZ ?_;simp only[g_S];refine rg_t 2 oZ ?_;simp only[g_S];refine rg_t 5 oZ ?_;simp only[g_S];refine rg_t 6 oZ ?_;simp only[g_S];have MP:IntKind.u64.wrap ((ch:Nat):Int)=(ch:Int):=IntWalk.u64_in _ ⟨by omega,by omega⟩;refine rg_t 7 oZ ?_;simp only[g_S]
 have CM:Own (w5.drew.alloc (.cells #[.int .u8 0,.int .u8 (tr:Int)] 5)) (w.heap.size+1) 5 1 (some ⟨w5.heap.size,0,none⟩) 2 2 ([0,KS tr].map u8v):=by
  have h:=yq (w:=w5.drew) (w.heap.size+1) #[.int .u8 0,.int .u8 (tr:Int)] 5 2 fY WX rfl (size:=1) Wq;rw[JG lp]at h ⊢;exact h
 have bH:Below w.heap.size w (w5.drew.alloc (.cells #[.int .u8 0,.int .u8 (tr:Int)] 5)):=Fv.alloc Fv.size _;have bY:=yX oZ ((KL w5.drew.heap.size w5.drew).alloc (Q2 _) (.cells #[.int .u8 0,.int .u8 (tr:Int)] 5));have Cn:Own (w5.drew.alloc (.cells #[.int .u8 0,.int .u8 (tr:Int)] 5)) (w.heap.size+1) 5 1 A5 4 c5 (o1.map u8v):=MY.alloc _;refine zj 3 rfl Wj rfl (fun K hK=>?_);go_simp;refine hK _ _ bY ?_;clear hK K;refine zj 4 rfl Wj rfl (fun K hK=>?_);have ej:w.heap.size+1≤(w5.drew.alloc (.cells #[.int .u8 0,.int .u8 (tr:Int)] 5)).heap.size:=K1 _ _ bY.1;refine jL (ops:=#[]) (w:=w5.drew.alloc (.cells #[.int .u8 0,.int .u8 (tr:Int)] 5)) slB underlying55 rfl rfl rfl Cn CM.rd (zM _) Wq WX ej ?_;intro A7 c7 w7 dJ H9 _;have Bq:=bH.grown H9 bH.size (fun g hg=>by have:=(Cn.blk_lt hg).1;omega);have pB:=jz bY H9 (fun e=>by have:=(Cn.blk_lt e.symm).1;omega);rw[←v1]at dJ;have uV:w.heap.size+1≤w7.heap.size:=K1 _ _ pB.1;have fW:=yR A7 6 c7 (o1++ [0,KS tr]) ch 2 w7 dJ.rd Wq Wq;rw[zc4]at fW;have cR:(o1++ [0,KS tr]++be 2 ch).length=8:=by simp[zr,gg]
 rw[cR]at fW;clear gg;generalize o1++ [0,KS tr]++be 2 ch=o3 at*;simp only[g_S];refine hK _ _ pB ?_;clear hK K;refine zj 8 rfl Wj rfl (fun K hK=>?_);go_simp;refine fW.mono ?_;rintro e w8 ⟨A8,c8,rfl,dS,hBp⟩;have Be:=Bq.trans (hBp.mono Bq.size);have cI:=yX pB hBp;have Dc:w.heap.size+1≤w8.heap.size:=K1 _ _ cI.1;have R3:=dS.base_le uV;refine hK _ _ cI ?_;clear hK K;refine rg_t 9 cI ?_;simp only[g_S];refine zD Wj ?_;clear fW CM Cn dJ H9 pB Bq bY bH MY oZ Fv lV bz BL hBp dS ej;have CB:w8.drew.cell? ⟨w.heap.size,0,none⟩=some (.bool b1)∧w8.drew.cell? ⟨w.heap.size,1,none⟩=some (.bool b2)∧w8.drew.cell? ⟨w.heap.size,2,none⟩=some (.bool b3)∧w8.drew.cell? ⟨w.heap.size,3,none⟩=some (.bool b4)∧w8.drew.cell? ⟨w.heap.size,4,none⟩=some (.int .u8 (ty:Int))∧w8.drew.cell? ⟨w.heap.size,5,none⟩=some (.int .u8 (tr:Int))∧w8.drew.cell? ⟨w.heap.size,6,none⟩=some (.int .u16 (ch:Int))∧w8.drew.cell? ⟨w.heap.size,7,none⟩=some (.string (str ld)):=cI;have O3:Own w8.drew (w.heap.size+1) 5 1 A8 8 c8 (o3.map u8v):=R3;have Le:=za Be 1;have pA:=yR A8 8 c8 o3 0 4 w8.drew O3.rd Wq Wq;rw[zdG]at pA;have oq:(o3++be 4 0).length=12:=by simp[zr,cR]
 rw[oq]at pA;clear cR;go_wp2_with(with_reducible refine h_A ?_);refine zt (fun wx=>wx.cell? ⟨w.heap.size,0,none⟩=some (.bool b1)∧wx.cell? ⟨w.heap.size,1,none⟩=some (.bool b2)∧wx.cell? ⟨w.heap.size,2,none⟩=some (.bool b3)∧wx.cell? ⟨w.heap.size,3,none⟩=some (.bool b4)∧wx.cell? ⟨w.heap.size,4,none⟩=some (.int .u8 (ty:Int))∧wx.cell? ⟨w.heap.size,5,none⟩=some (.int .u8 (tr:Int))∧wx.cell? ⟨w.heap.size,6,none⟩=some (.int .u16 (ch:Int))∧wx.cell? ⟨w.heap.size,7,none⟩=some (.string (str ld))) Wj ?_;refine rg_t 0 CB ?_;simp only[Vy,VB,Act.put,Vx,q5,q6];refine rg_t 2 CB ?_;simp only[g_S];refine rg_t 3 CB ?_;simp only[g_S];refine zj 1 rfl Wj rfl (fun K hK=>?_);go_simp;refine pA.mono ?_;rintro e w9 ⟨A9,c9,rfl,dt,hBp⟩;have Bh:=Le.trans (hBp.mono Le.size);have iM:=yX CB hBp;have iK:w.heap.size+1≤w9.heap.size:=K1 _ _ iM.1;have Gl:=dt.base_le Dc;refine hK _ _ iM ?_;clear hK K;refine zj 4 rfl Wj rfl (fun K hK=>?_);refine JF slB underlying9 rfl rfl rfl Gl Wq iK ?_;intro nt c10 rh eW ed;have lO:=Bh.grown ed Bh.size (fun g hg=>by have:=(Gl.blk_lt hg).1;omega);have FF:=jz iM ed (fun e=>by have:=(Gl.blk_lt e.symm).1;omega);rw[←v1]at eW;have uI:=eW.base_le (Nat.le_succ _);have nY:by_.length=12+ld.length:=by rw[md.out,y2,oq]
 have Iz:=Q1 nY;clear nY oq;simp only[g_S];refine hK _ _ FF ?_;clear hK K;refine rg_t 5 FF ?_;simp only[g_S];refine rg_t 6 FF ?_;simp only[g_S];refine zD Wj ?_;exact Z5v_
def gkV(c t:Nat):Value:=.agg #[.int .i64 (c:Int),.int .i64 (t:Int)]
def gkL(c t:Nat):Lit:=.string (keyBytes [.int .i64 (c:Int),.int .i64 (t:Int)])
theorem zb6:(match prog.underlying 156 with|some (.array _ _)|some (.struct _)=>true|_=>false)=true:=by rw[underlying156]
theorem zaE:laidOutB prog=true:=by kernel_rfl
theorem zbN:(156:TypeId)<prog.types.size:=of_decide_eq_true Wj
theorem zc1:WideMaps.KeyLaw prog 156:=deep_law_laid zaE (m:=3) Wq zbN Wj zb6
theorem gk_keyed:Maps.Keyed prog 156:=Maps.Keyed.of_law zc1
theorem zbO(h:a<65536):(Lit.int .i64 (a:Int)).wf=true:=by
 have e1:IntKind.i64.min= -9223372036854775808:=by decide
 have e2:IntKind.i64.max=9223372036854775807:=by decide
 simp only[Lit.wf,e1,e2,Bool.and_eq_true,decide_eq_true_eq];omega
theorem vP(ha:a<65536)(hb:b<65536):keyOf prog 156 (gkV a b)=some (gkL a b):=by
 have h1:=zbO ha;have h2:=zbO hb;have hf:(gkV a b).formed prog 156=true:=by simp[gkV,Value.formed,underlying156];kernel_rfl
 have hk:prog.keyType 156=true:=by kernel_rfl
 have hc:prog.cellsOf 156=2:=by kernel_rfl
 have ck:prog.cellsOf 3=1:=by kernel_rfl
 obtain⟨m,hm⟩:∃m,prog.types.size=m+1:=⟨prog.types.size-1,(Nat.succ_pred_eq_of_pos (Nat.lt_of_le_of_lt (Nat.zero_le _) zbN)).symm⟩
 unfold keyOf;rw[underlying156];simp only[hk,hf,Bool.and_self,if_true,hm];simp[Program.keyLits,underlying156,underlying3,hc,ck,gkV,Value.cells,h1,h2,q9,q9.loop,gkL]
theorem zb7{d:Nat}(ha:a<65536)(hb:b<65536)(hc:c<65536)(hd:d<65536)(h:gkL a b=gkL c d):a=c∧b=d:=by
 have h1:=vP ha hb;have h2:=vP hc hd;rw[h]at h1;have e:=gk_keyed.inj h1 h2;simp[gkV]at e;omega
def sgC(s:Sg):List Value:=[.int .u8 (s.ty:Int),.string (str s.load)]
theorem xd:RecShape sgC 2 where
 len:=fun _=>rfl
 one:=fun a u hu=>by simp[sgC]at hu;rcases hu with rfl|rfl<;>rfl
 pos:=by omega
theorem slG:SlT prog 40 84 2 24 (.agg #[.int .u8 0,.string ⟨#[]⟩]):=SlT.mk' underlying40 Wj rfl Wq
abbrev OwnG(w:World)(base:Nat)(A:Option Addr)(n c:Nat)(l:List Sg):Prop:=Own w base 84 2 A n c (rowC sgC l)
abbrev RdG(w:World)(B:Nat)(A:Option Addr)(n c:Nat)(l:List Sg):Prop:=Rd w B 2 A n c (rowC sgC l)
def jM(h:Hd)(size:Nat)(f:Fr)(goes:Bool):Array Value:=#[h.v,.int .i64 (size:Int),.bool f.first,.bool f.last,.bool f.beg,.bool f.fin,.int .u8 (f.ty:Int),.int .u8 (f.track:Int),.int .u16 (f.chan:Int),.string (str f.load),.bool goes]
def fr00:Fr:=⟨false,false,false,false,0,0,0,[]⟩
theorem Kx(w:World):(zeroValue 158).run prog w= .ok (.agg (jM ⟨none,0,0⟩ 0 fr00 false)) w:=zeroValue158 w
def Qa(is:Bool)(x:Fr)(goes:Bool)(f:Fr):Bool:=
 if 1<f.track then false else if is then(if goes then !f.beg&&decide (f.ty=x.ty)&&(f.first==x.first)&&(f.last==x.last)else f.beg&& !f.first&&decide (x.ty<f.ty))
 else f.first&&f.beg&&decide (f.ty=f.track)&&(f.last||decide (f.track=1))
theorem zaD(h:Hd)(sz:Nat)(x:Fr)(goes is:Bool)(f:Fr)(w:World)(hf:f.wf)(hx:x.ty<256):
  Calls prog 82 #[.agg (jM h sz x goes),.bool is,.agg (frV f)] w fun e w'=>e= .returned (.bool (Qa is x goes f))∧Below w.heap.size w w':=by
 obtain⟨b1,b2,b3,b4,ty,tr,ch,ld⟩:=f;obtain⟨x1,x2,x3,x4,xty,xtr,xch,xld⟩:=x;obtain⟨mr,lp,ii⟩:=hf;simp only at mr lp ii hx;unfold Qa frV jM Hd.v;simp only;by_cases g1:1<tr
 ·rw[if_pos g1];have g2:(1:Int)<(tr:Int):=by omega
  go_enter func82,ntmps82;go_wp2_with(with_reducible refine h_A ?_);go_ret;exact⟨rfl,((KL _ _).alloc (Q2 _) _).alloc Wz _⟩
 rw[if_neg g1];have g2:decide ((1:Int)<(tr:Int))=false:=by simp;omega
 cases is
 ·exact Z2y_
 rw[if_pos rfl];clear g1;have k1:((ty:Int)==(xty:Int))=decide (ty=xty):=by rw[Bool.eq_iff_iff];simp;omega
 have k2:decide ((xty:Int)<(ty:Int))=decide (xty<ty):=by rw[Bool.eq_iff_iff];simp
 cases goes
 ·have qqcz:=();exact Z2y_
 have qqd0:=();exact Z2y_
def kA(l:List Fr):Bool:=match l.getLast? with
 | none=>false
 | some x=> !x.fin
def PartOk(l:List Fr)(x:Fr):Prop:=x.ty<256∧∃y,l.getLast?=some y∧x.ty=y.ty∧x.first=y.first∧x.last=y.last
theorem PartOk.fits{l:List Fr}{x:Fr}(h:PartOk l x)(f:Fr):Qa true x (kA l) f=fitsB l f:=by
 obtain⟨_,y,hy,h1,h2,h3⟩:=h;unfold Qa fitsB kA;rw[hy,h1,h2,h3]
 cases hf:y.fin<;>simp[hf]
theorem JD(x:Fr)(f:Fr):Qa false x (kA []) f=fitsB [] f:=by simp[Qa,fitsB]
structure GaMap(w:World)(F:Nat→Prop)(mb n:Nat)(D:DataW Value)(hd:Nat→Nat→Hd)(xf:Nat→Nat→Fr)(op:Nat→Nat→List Fr):Prop where
 owns:w.ownsMap prog 156 rawV mb n D
 inF:F mb
 miss:∀a b,a<65536→b<65536→op a b=[]→Maps.has D (gkL a b)=false
 has:∀a b,a<65536→b<65536→op a b≠ []→Maps.has D (gkL a b)=true∧∀z,D.atKey (gkL a b) z= .held (.agg (jM (hd a b) (zI (op a b)) (xf a b) (kA (op a b))))
 part:∀a b,a<65536→b<65536→op a b≠ []→PartOk (op a b) (xf a b)
 row:∀a b,a<65536→b<65536→op a b≠ []→OwnG w 0 (hd a b).A (hd a b).n (hd a b).c (zZ (op a b))∧∀g,blk (hd a b).A=some g→F g∧g≠mb
 apart:∀a b c d,a<65536→b<65536→c<65536→d<65536→op a b≠ []→op c d≠ []→¬(a=c∧b=d)→∀g,blk (hd a b).A=some g→blk (hd c d).A≠some g
 lt:∀g,F g→g<w.heap.size
theorem GaMap.keep{D:DataW Value}{hd:Nat→Nat→Hd}{xf:Nat→Nat→Fr}{op:Nat→Nat→List Fr}(h:GaMap w F mb n D hd xf op)(hk:∀g,F g→w'.heap[g]?=w.heap[g]?)(hs:w.heap.size≤w'.heap.size):GaMap w' F mb n D hd xf op where
 owns:=yj h.owns (hk _ h.inF)
 inF:=h.inF
 miss:=h.miss
 has:=h.has
 part:=h.part
 row a b ha hb hne:=by
  obtain⟨h1,h2⟩:=h.row a b ha hb hne;exact⟨Zb h1 (fun g hg=>hk g (h2 g hg).1),h2⟩
 apart:=h.apart
 lt g hg:=v3 (h.lt g hg) hs
theorem GaMap.mono{D:DataW Value}{hd:Nat→Nat→Hd}{xf:Nat→Nat→Fr}{op:Nat→Nat→List Fr}(h:GaMap w F mb n D hd xf op)(hn:n≤m):GaMap w F mb m D hd xf op:=⟨h.owns.mono hn,h.inF,h.miss,h.has,h.part,h.row,h.apart,h.lt⟩
structure Ga(w:World)(F:Nat→Prop)(pb n:Nat)(g:GS):Prop where
 ex:∃mb D hd xf,Box w pb 88 #[.map (some mb),.bool g.dead]∧F pb∧pb≠mb∧(g.dead=false→(∀a b,a<65536→b<65536→g.op a b≠ []→blk (hd a b).A≠some pb)∧GaMap w F mb n D hd xf g.op)
 lt:∀k,F k→k<w.heap.size
theorem Ga.keep{g:GS}(h:Ga w F pb n g)(hk:∀k,F k→w'.heap[k]?=w.heap[k]?)(hs:w.heap.size≤w'.heap.size):Ga w' F pb n g where
 ex:=by
  obtain⟨mb,D,hd,xf,h1,h2,h3,h4⟩:=h.ex;exact⟨mb,D,hd,xf,(hk _ h2).trans h1,h2,h3,fun e=>⟨(h4 e).1,(h4 e).2.keep hk hs⟩⟩
 lt k hk':=v3 (h.lt k hk') hs
theorem Ga.mono{g:GS}(h:Ga w F pb n g)(hn:n≤m):Ga w F pb m g:=by
 obtain⟨⟨mb,D,hd,xf,h1,h2,h3,h4⟩,h5⟩:=h;exact⟨⟨mb,D,hd,xf,h1,h2,h3,fun e=>⟨(h4 e).1,(h4 e).2.mono hn⟩⟩,h5⟩
theorem Ga.below{g:GS}(h:Ga w F pb n g)(hB:Below w.heap.size w w'):Ga w' F pb n g:=h.keep (fun k hk=>hB.block k (h.lt k hk)) hB.size
theorem Ga.keepF{G:Nat→Prop}{g:GS}(h:Ga w F pb n g)(hk:KeepF G w w')(hd:∀k,F k→¬G k):Ga w' F pb n g:=h.keep (zaF hk hd h.lt) hk.1
theorem GaMap.look{D:DataW Value}{hd:Nat→Nat→Hd}{xf:Nat→Nat→Fr}{op:Nat→Nat→List Fr}(h:GaMap w F mb n D hd xf op)(ha:a<65536)(hb:b<65536):
  ∃(H:Hd) (x:Fr) (is:Bool),(∀W,Below w.heap.size w W→(Instr.lookup 86 (.map (some mb)) (gkV a b) true).run prog W= .ok (.tuple #[.agg (jM H (zI (op a b)) x (kA (op a b))),.bool is]) W)∧
   (op a b=[]→H=⟨none,0,0⟩∧is=false)∧(op a b≠ []→H=hd a b∧x=xf a b∧is=true)∧H.n=(zZ (op a b)).length∧OwnG w 0 H.A H.n H.c (zZ (op a b))∧x.ty<256∧∀f,Qa is x (kA (op a b)) f=fitsB (op a b) f:=by
 have iN:∀W,Below w.heap.size w W→∃v ps,(Instr.lookup 86 (.map (some mb)) (gkV a b) true).run prog W= .ok (.tuple #[v,.bool (Maps.has D (gkL a b))]) W∧rawV v=some (D.atKey (gkL a b) (.held (.agg (jM ⟨none,0,0⟩ 0 fr00 false))),ps):=fun W hW=>
  (h.keep (fun g hg=>hW.block g (h.lt g hg)) hW.size).owns.look_ok gk_keyed underlying86 (Kx W) (zd:=.held (.agg (jM ⟨none,0,0⟩ 0 fr00 false))) (zp:=[]) rfl (vP ha hb)
 by_cases e:op a b=[]
 ·refine⟨⟨none,0,0⟩,fr00,false,fun W hW=>?_,fun _=>⟨rfl,rfl⟩,fun hne=>absurd e hne,by rw[e];rfl,by rw[e];exact Own.none_ _ _ _ _,by simp[fr00],fun f=>by rw[e];exact JD _ f⟩;obtain⟨v,ps,h1,h2⟩:=iN W hW;rw[Maps.atKey_of_not_has (h.miss a b ha hb e)]at h2;simp only[rawV,Option.some.injEq,Prod.mk.injEq,DataW.held.injEq]at h2;rw[h.miss a b ha hb e,h2.1]at h1;rw[e];exact h1
 have hr:=(h.row a b ha hb e).1;have hp:=h.part a b ha hb e;refine⟨hd a b,xf a b,true,fun W hW=>?_,fun h'=>absurd h' e,fun _=>⟨rfl,rfl,rfl⟩,(YK xd hr).symm,hr,hp.1,fun f=>hp.fits f⟩;obtain⟨v,ps,h1,h2⟩:=iN W hW;rw[(h.has a b ha hb e).2]at h2;simp only[rawV,Option.some.injEq,Prod.mk.injEq,DataW.held.injEq]at h2;rw[(h.has a b ha hb e).1,h2.1]at h1;exact h1
theorem Zi{k:TypeId}{D:DataW Value}(h:w.ownsMap prog k rawV b n D):Maps.IsMap D:=by
 obtain⟨es,clock,_,_,_,hD⟩:=h;exact⟨_,hD⟩
theorem GaMap.set{w5:World}{F':Nat→Prop}{D D':DataW Value}{hd:Nat→Nat→Hd}{xf:Nat→Nat→Fr}{op op':Nat→Nat→List Fr}(h:GaMap w F mb n D hd xf op)(ha:a<65536)(hb:b<65536){l:List Fr}{H:Hd}{x:Fr}
  (cS:∀u v,op' u v=if u=a∧v=b then l else op u v) (o5:w5.ownsMap prog 156 rawV mb m D') (k5:∀g,g<w.heap.size→g≠mb→(op a b≠ []→blk (hd a b).A≠some g)→w5.heap[g]?=w.heap[g]?)
  (dO:∀u v,gkL u v≠gkL a b→Maps.has D' (gkL u v)=Maps.has D (gkL u v)∧∀z,D'.atKey (gkL u v) z=D.atKey (gkL u v) z) (d0:l=[]→Maps.has D' (gkL a b)=false)
  (d1:l≠ []→Maps.has D' (gkL a b)=true∧(∀z,D'.atKey (gkL a b) z= .held (.agg (jM H (zI l) x (kA l))))∧PartOk l x∧OwnG w5 0 H.A H.n H.c (zZ l)∧∀g,blk H.A=some g→F' g∧g≠mb∧(w.heap.size≤g∨op a b≠ []∧blk (hd a b).A=some g))
  (TA:∀g,F g→(op a b≠ []→blk (hd a b).A≠some g)→F' g) (hlt:∀g,F' g→g<w5.heap.size):
  GaMap w5 F' mb m D' (fun u v=>if u=a∧v=b then H else hd u v) (fun u v=>if u=a∧v=b then x else xf u v) op':=by
 have SX:∀u v,u<65536→v<65536→¬(u=a∧v=b)→gkL u v≠gkL a b:=fun u v hu hv hne e=>hne (zb7 hu hv ha hb e)
 refine⟨o5,TA mb h.inF fun e e'=>((h.row a b ha hb e).2 mb e').2 rfl,fun u v hu hv e=>?_,fun u v hu hv e=>?_,fun u v hu hv e=>?_,fun u v hu hv e=>?_,fun u v c d hu hv hc UT e1 e2 hne=>?_,hlt⟩
 ·rw[cS]at e;by_cases q:u=a∧v=b
  ·rw[if_pos q]at e;rw[q.1,q.2];exact d0 e
  rw[if_neg q]at e;rw[(dO u v (SX u v hu hv q)).1];exact h.miss u v hu hv e
 ·rw[cS]at e ⊢;by_cases q:u=a∧v=b
  ·simp only[if_pos q]at e ⊢;rw[q.1,q.2];exact⟨(d1 e).1,(d1 e).2.1⟩
  simp only[if_neg q]at e ⊢;rw[(dO u v (SX u v hu hv q)).1];exact⟨(h.has u v hu hv e).1,fun z=>by rw[(dO u v (SX u v hu hv q)).2];exact(h.has u v hu hv e).2 z⟩
 ·rw[cS]at e ⊢;by_cases q:u=a∧v=b
  ·simp only[if_pos q]at e ⊢;exact(d1 e).2.2.1
  simp only[if_neg q]at e ⊢;exact h.part u v hu hv e
 ·rw[cS]at e ⊢;by_cases q:u=a∧v=b
  ·simp only[if_pos q]at e ⊢;obtain⟨_,_,_,h4,h5⟩:=d1 e;exact⟨h4,fun g hg=>⟨(h5 g hg).1,(h5 g hg).2.1⟩⟩
  simp only[if_neg q]at e ⊢;obtain⟨q1,q2⟩:=h.row u v hu hv e;have q3:∀g,blk (hd u v).A=some g→(op a b≠ []→blk (hd a b).A≠some g):=fun g hg ne=>h.apart u v a b hu hv ha hb e ne q g hg
  exact⟨Zb q1 (fun g hg=>k5 g (h.lt _ (q2 g hg).1) (q2 g hg).2 (q3 g hg)),fun g hg=>⟨TA g (q2 g hg).1 (q3 g hg),(q2 g hg).2⟩⟩
 intro g hg Hm;rw[cS]at e1 e2
 have key:∀u v,u<65536→v<65536→¬(u=a∧v=b)→op u v≠ []→l≠ []→∀g,blk (hd u v).A=some g→blk H.A=some g→False:=by
  intro u v hu hv q e hl g hg Hm;obtain⟨_,_,_,_,h5⟩:=d1 hl;obtain⟨_,_,h6⟩:=h5 g Hm;rcases h6 with h6|⟨h6,h7⟩
  ·have:=h.lt _ ((h.row u v hu hv e).2 g hg).1;omega
  exact h.apart u v a b hu hv ha hb e h6 q g hg h7
 by_cases q:u=a∧v=b
 ·by_cases q':c=a∧d=b
  ·exact hne ⟨q.1.trans q'.1.symm,q.2.trans q'.2.symm⟩
  simp only[if_pos q]at e1 hg;simp only[if_neg q']at e2 Hm;exact key c d hc UT q' e2 e1 g Hm hg
 by_cases q':c=a∧d=b
 ·simp only[if_neg q]at e1 hg;simp only[if_pos q']at e2 Hm;exact key u v hu hv q e1 e2 g hg Hm
 simp only[if_neg q]at e1 hg;simp only[if_neg q']at e2 Hm;exact h.apart u v c d hu hv hc UT e1 e2 hne g hg Hm
def asV(c t:Nat)(A:Option Addr)(n k:Nat):Array Value:=#[.int .u16 (c:Int),.int .u8 (t:Int),.slice A n k]
def asZ:Array Value:=#[.int .u16 0,.int .u8 0,.slice none 0 0]
theorem zo(w:World)(cs:Array Value)(t:TypeId):∃(b:Nat) (v:World),b=w.heap.size∧v=w.alloc (.cells cs t)∧Box v b t cs∧Below w.heap.size w v:=
 ⟨_,_,rfl,rfl,Box.new w cs t,(KL _ _).alloc (Q2 _) _⟩
theorem Y8{k e:TypeId}{D:DataW Value}(h:w.ownsMap prog k rawV b n D)(ht:prog.underlying t=some (.map k e))(ty:TypeId):∃w',(Builtin.clear_ #[t] ty #[.map (some b)]).run prog w= .ok (.tuple #[]) w'∧w.grownBy w' (some b)∧w'.heap.size=w.heap.size:=by
 obtain⟨es,clock,hb,_⟩:=h;refine⟨_,by simp[Builtin.clear_,run_underlying ht,Go.MapKept.run_getObj_map hb,Go.MapKept.run_setObj_map _ hb,Result.andThen];rfl,?_,?_⟩
 ·exact⟨rfl,rfl,rfl,by simp,fun i _ hi=>by
   show(w.heap.setIfInBounds b _)[i]?=_
   rw[Array.getElem?_setIfInBounds_ne (fun e=>hi (by rw[e]))]⟩
 simp
theorem X9{ops:Array Oper}{rest:List Oper}{o:Oper}{a:Act}{Q:Exit→Act→World→Prop}{k e:TypeId}{D:DataW Value}{m:Operand}(hw:Region.wanted o (yielded ops a.tmps)=true)(ho:o.op= .call {callee:=.builtin .clear,args:=#[m],argTypes:=#[t]})(hm:a.eval m= .map (some b))
  (h:w.ownsMap prog k rawV b n D) (ht:prog.underlying t=some (.map k e)) (hk:∀w',w.grownBy w' (some b)→w'.heap.size=w.heap.size→wpList prog ops Q rest (a.put o.dst (.tuple #[])) w'):wpList prog ops Q (o::rest) a w:=by
 refine BigFrame.wpList_want hw fun K hK=>?_
 obtain⟨w',bv,h1,h2⟩:=Y8 h ht o.type;unfold Oper.wp execOp;simp only[ho,resolve,invoke,builtin,Sem.run_bind,Sem.run_pure,Result.andThen_ok,List.map_toArray,List.map_cons,List.map_nil,hm,bv];exact hK _ _ (hk w' h1 h2)
def xP(a:As):Nat:=if asOk a then 0 else 70
def vy(l:List Sg):Nat→Option Nat
 | 0=>none
 | i+1=>(l[i]?).map (·.ty)
theorem Qj{l:List Sg}(h:i<l.length):xn n (vy l i) (l.drop i)=(decide (l[i].ty≤3)&&(match vy l i with|none=>true|some p=>decide (p<l[i].ty))&&decide (n+l[i].load.length≤16384)&&xn (n+l[i].load.length) (vy l (i+1)) (l.drop (i+1))):=by
 have e:vy l (i+1)=some l[i].ty:=by simp[vy,h]
 rw[v4 h,e];rfl
theorem JJ(a:As)(A:Option Addr)(n c:Nat)(B:Nat)(w:World)(hr:RdG w B A n c a.segs)(hB:B≤w.heap.size)(hw:a.wf)(hs:∀s∈a.segs,s.load.length≤140737488351232)(hn:n≤140737488351232):
  Calls prog 61 #[.agg (asV a.chan a.track A n c)] w fun e w'=>e= .returned (.int .i64 (xP a:Int))∧Below w.heap.size w w':=by
 have cX:=xr xd hr;obtain⟨ch,tr,l⟩:=a;obtain⟨ii,lp,mr⟩:=hw;simp only at*;obtain⟨xb,w0,bC,bh,hX,Hr⟩:=zo w (asV ch tr A n c) 42;have HN:=Q1 cX;have BF:=fun{i:Nat} (hi:i<n)=>qm xd hr hi
 have CY:=Q1 mr;have Se:=Q1 hs;have sw:w.heap.size≤xb:=by omega
 clear cX mr hs;unfold asV at*;go_enter func61,ntmps61;go_upto_region 1 with fail;rw[←bC,←bh];clear bC bh;have x0:=hX.c0;have x1:=hX.c1;have x2:=hX.c2;have HR:Hid (xn 0 none l=xn 0 (vy l 0) (l.drop 0)):=Q1 rfl;go_wp2_with(with_reducible refine h_B ?_);go_loopw [3,9] (fun s3 s9 wr=>∃(i m:Nat),i≤n∧m≤16384∧s3= .int .i64 (m:Int)∧s9= .int .i64 (i:Int)∧Hid (xn 0 none l=xn m (vy l i) (l.drop i))∧Box wr xb 42 #[.int .u16 (ch:Int),.int .u8 (tr:Int),.slice A n c]∧Below w.heap.size w wr) (fun _ s9 _=>n-(K2 s9).toNat)
 case atStart=>exact⟨0,0,by omega,by omega,rfl,rfl,HR,hX,Hr⟩
 clear HR x0 x1 x2 hX Hr w0;obtain⟨i,m,hi,hm,rfl,rfl,HC,hX,bO⟩:=hrel;have x0:=hX.c0;have x1:=hX.c1;have x2:=hX.c2;by_cases hlt:i<n
 ·have qqeq:=();exact Z3l_
 have g1:¬(i:Int)<(n:Int):=by omega
 have BM:xn 0 none l=true:=by
  rw[HC.out,List.drop_eq_nil_of_le NZ]
  cases vy l i<;>rfl
 have HA:=Q1 BM;clear BM HC;rcases y5 n with rW|nA
 ·have HV:Hid (xP ⟨ch,tr,l⟩=70):=Q1 (by
   have:l=[]:=ky NZ
   simp[xP,asOk,jN,this])
  have d1:((n:Int)==0)=true:=by simp;omega
  clear rW BF;exact Z4y_
 obtain⟨b,off,rfl,dP,bK,bD⟩:=BF nA;have gc:b<w.heap.size:=by omega
 have k0:wr.cell? ⟨b,off,none⟩=some (.int .u8 (l[0].ty:Int)):=(bO.cell (p:=⟨b,off,none⟩) gc).trans (by simpa using bD 0 _ rfl);have mr:=CY.out _ (y6 bK);have hj1:(0:Int)<(n:Int):=by omega
 have d1:((n:Int)==0)=false:=by simp;omega
 have HH:Hid (jN ⟨ch,tr,l⟩=(decide (l[0].ty=tr)&&decide (tr≤1)&&(decide (tr≠0)||decide (n≤1)))):=Q1 (by
  have:=HN.out
  cases l with
  | nil=>simp at bK
  | cons s r=>
   simp only[jN,VB];congr 2
   cases r with
   | nil=>simp at this ⊢;omega
   | cons s' r'=>simp at this ⊢;omega)
 clear bD BF;generalize l[0].ty=t0 at*;by_cases c1:t0=tr
 ·have d2:((t0:Int)!=(tr:Int))=false:=by simp;omega
  have MM:=Q1 c1;clear c1;by_cases c2:1<tr
  ·have qqd6:=();exact Z30_
  have d3:decide ((1:Int)<(tr:Int))=false:=by simp;omega
  by_cases c3:tr=0
  ·(have d4:((tr:Int)==0)=true:=by simp;omega);have LM:=Q1 c3;clear c3;by_cases c4:1<n
   ·have d5:(1:Int)<(n:Int):=by omega
    have HV:Hid (xP ⟨ch,tr,l⟩=70):=Q1 (by
     have:jN ⟨ch,tr,l⟩=false:=by rw[HH.out];simp[LM.out];omega
     simp[xP,asOk,this])
    exact Z4y_
   have d5:decide ((1:Int)<(n:Int))=false:=by simp;omega
   have HV:Hid (xP ⟨ch,tr,l⟩=0):=Q1 (by
    have:jN ⟨ch,tr,l⟩=true:=by rw[HH.out];simp[MM.out,LM.out];omega
    simp[xP,asOk,this,HA.out])
   exact Z4y_
  have d4:((tr:Int)==0)=false:=by simp;omega
  have HV:Hid (xP ⟨ch,tr,l⟩=0):=Q1 (by
   have:jN ⟨ch,tr,l⟩=true:=by rw[HH.out];simp[MM.out,c3];omega
   simp[xP,asOk,this,HA.out])
  exact Z4y_
 exact Z30_
theorem QS(pb mb n k:Nat)(d:Bool)(D:DataW Value)(w:World)(hb:Box w pb 88 #[.map (some mb),.bool d])(hm:w.ownsMap prog 156 rawV mb n D)(hne:pb≠mb):
  Calls prog 81 #[.pointer (some ⟨pb,0,none⟩),.int .i64 (k:Int)] w fun e w'=>e= .returned (.tuple #[.agg asZ,.bool false,.int .i64 (k:Int)])∧Box w' pb 88 #[.map (some mb),.bool true]∧KeepF (fun g=>g=pb∨g=mb) w w':=by
 obtain⟨rb,w0,bC,bh,hr,Hr⟩:=zo w asZ 42;have dd:=hb.below Hr;have sL:w0.ownsMap prog 156 rawV mb n D:=yj hm (Hr.block mb hm.lt);have US:rb≠pb:=by have:=hb.lt;omega
 have ny:rb≠mb:=by have:=hm.lt;omega
 have DK:w.heap.size≤rb:=by omega
 have Ts:KeepF (fun g=>g=pb∨g=mb) w w0:=.below Hr;unfold asZ at*;go_enter func81,ntmps81;go_upto_region 1 with fail;go_wp2_with(with_reducible refine h_B ?_);rw[←bC,←bh];clear bh bC;refine zc (zm (v:=.bool true) (vs:=[.bool true]) rfl rfl rfl rfl dd rfl Wj Wz WZ #[.map (some mb),.bool true] Wz ?_);intro w1 bL bM cq;have dT:=hr.grown bM (by intro e;injection e with e;exact US e);have gG:w1.ownsMap prog 156 rawV mb n D:=yj sL (bM.block mb sL.lt (by intro e;injection e with e;exact hne e.symm));have tH:KeepF (fun g=>g=pb∨g=mb) w w1:=Ts.trans (.grown bM (fun g hg=>.inl (.inl Hx))) (fun g hg=>.inl hg);have c0:=bL.c0;clear dd hr sL Ts bM cq Hr;go_wp2_with(first|(with_reducible refine JI ?_)|(with_reducible refine yM ?_));refine zc (X9 rfl rfl rfl gG underlying86 ?_);intro w2 Hm et;have cE:=dT.grown Hm (by intro e;injection e with e;exact ny e);have bE:=bL.grown Hm (by intro e;injection e with e;exact hne e);have dQ:KeepF (fun g=>g=pb∨g=mb) w w2:=tH.trans (.grown Hm (fun g hg=>.inl (.inr Hx))) (fun g hg=>.inl hg);clear bL dT gG tH Hm et c0;go_wp2_with(with_reducible refine h_B ?_);refine zc (zm (v:=.agg #[.int .u16 0,.int .u8 0,.slice none 0 0]) (vs:=[.int .u16 0,.int .u8 0,.slice none 0 0]) rfl rfl rfl rfl cE rfl Wj Wz WZ #[.int .u16 0,.int .u8 0,.slice none 0 0] Wz ?_);intro w3 cl H7 fV;have bX:=bE.grown H7 (by intro e;injection e with e;exact US e.symm);have BO:KeepF (fun g=>g=pb∨g=mb) w w3:=dQ.trans (.grown (F:=fun g=>g=rb) H7 (fun g hg=>.inl Hx)) (fun g hg=>.inr (by rw[hg];exact DK));clear bE cE dQ H7 fV;go_wp2_with(with_reducible refine h_B ?_);exact zv rfl cl rfl rfl rfl underlying42 rfl Wj rfl ⟨rfl,bX,BO⟩
section
def Kv(w:World)(F:Nat→Prop)(pb n:Nat)(g:GS)(f:Fr)(e:Ending)(w':World):Prop:=
 ∃F':Nat→Prop,(∀k,F' k→F k∨w.heap.size≤k)∧Ga w' F' pb (n+1) (g.next f)∧KeepF F w w'∧
  ((g.out f=none∧e= .returned (.tuple #[.agg asZ,.bool false,.int .i64 (g.err f:Int)]))∨
   (∃a A c,g.out f=some a∧e= .returned (.tuple #[.agg (asV a.chan a.track A a.segs.length c),.bool true,.int .i64 0])∧OwnG w' 0 A a.segs.length c a.segs∧∀b,blk A=some b→¬F' b∧(F b∨w.heap.size≤b)))
theorem GS.out_err{g:GS}{f:Fr}(h:g.err f≠0):g.out f=none:=by unfold GS.out;rw[if_neg (fun e=>h e.1)]
theorem GS.next_err{g:GS}{f:Fr}(h:g.err f≠0):g.next f=⟨true,fun _ _=>[]⟩:=by unfold GS.next;rw[if_pos h]
theorem v7{g:GS}{f:Fr}(hlt:∀k,F k→k<w.heap.size)(hb:Box w' pb 88 #[.map (some mb),.bool true])(hF:F pb)(hne:pb≠mb)(hK:KeepF F w w')(he:g.err f=k)(hk:k≠0):
  Kv w F pb n g f (.returned (.tuple #[.agg asZ,.bool false,.int .i64 (k:Int)])) w':=by
 refine⟨F,fun _ h=>.inl h,⟨⟨mb,.map [],fun _ _=>⟨none,0,0⟩,fun _ _=>fr00,?_,hF,hne,fun h=>?_⟩,fun k hk=>v3 (hlt k hk) hK.1⟩,hK,.inl ⟨GS.out_err Wq,by rw[he]⟩⟩
 ·rw[GS.next_err Wq];exact hb
 rw[GS.next_err Wq]at h;cases h
theorem Y7{l:List Fr}{x f:Fr}(h:l≠ []→PartOk l x)(hf:fitsB l f=true)(hw:f.wf):PartOk (l++ [f]) (if f.beg then f else x):=by
 cases hb:f.beg with
 | true=>exact⟨hw.1,f,by simp,rfl,rfl,rfl⟩
 | false=>
  have hne:l≠ []:=fun e=>by rw[e]at hf;have:=(Zj hf).2.1;rw[hb]at this;cases this
  obtain⟨h1,y,hy,h2,h3,h4⟩:=h hne;unfold fitsB at hf;split at hf
  ·cases hf
  rw[hy]at hf;simp only[hb]at hf;split at hf
  ·simp at hf
  simp at hf;obtain⟨⟨e1,e2⟩,e3⟩:=hf;exact⟨h1,f,by simp,by simp[h2,e1],by simp[h3,e2],by simp[h4,e3]⟩
theorem JC(l:List Fr)(f:Fr):kA (l++ [f])= !f.fin:=by simp[kA]
theorem vN(l:List Fr)(f:Fr):zI (l++ [f])=zI l+f.load.length:=by rw[qz];simp[zI]
theorem QR{l:List Fr}{f:Fr}(hg:Goes l)(hf:fitsB l f=true):∃L0 s0,(if f.beg then zZ l++ [⟨f.ty,[]⟩]else zZ l)=L0++ [s0]∧zZ (l++ [f])=L0++ [⟨s0.ty,s0.load++f.load⟩]:=by
 have hne:(if f.beg then zZ l++ [⟨f.ty,[]⟩]else zZ l)≠ []:=by
  split
  ·simp
  rename_i hb
  refine Xa hg fun e=>?_
  rw[e]at hf;exact hb (Zj hf).2.1
 refine⟨_,_,(y7 hne).symm,?_⟩;rw[jw,xE]
 conv=>lhs;rw[←y7 hne]
 rw[vt]
structure FdS(w wx:World)(hA:Option Addr)(fb rb kb qb pb mb:Nat)(d:Bool)(f:Fr)(X:Array Value)(A:Option Addr)(n c:Nat)(L:List Sg):Prop where
 bf:Box wx fb 97 (frV f)
 br:Box wx rb 42 asZ
 bk:Box wx kb 156 #[.int .i64 (f.chan:Int),.int .i64 (f.track:Int)]
 bq:Box wx qb 158 X
 bp:Box wx pb 88 #[.map (some mb),.bool d]
 row:OwnG wx 0 A n c L
 keep:KeepF (fun g=>blk hA=some g) w wx
 lo:w.heap.size≤fb∧w.heap.size≤rb∧w.heap.size≤kb∧w.heap.size≤qb∧pb<w.heap.size
 ne:fb≠rb∧fb≠kb∧fb≠qb∧rb≠kb∧rb≠qb∧kb≠qb
 hp:blk hA≠some pb
 hl:∀g,blk hA=some g→g<w.heap.size
 at_:∀g,blk A=some g→blk hA=some g∨w.heap.size≤g∧g≠fb∧g≠rb∧g≠kb∧g≠qb
section
variable {w wx wy : World} {hA : Option Addr} {fb rb kb qb pb mb : Nat} {d : Bool} {f : Fr} {X Y : Array Value} {A A2 : Option Addr} {n c n2 c2 : Nat} {L L2 : List Sg}
theorem FdS.off(h:FdS w wx hA fb rb kb qb pb mb d f X A n c L)(hg:blk A=some g):g≠fb∧g≠rb∧g≠kb∧g≠qb∧g≠pb:=by
 have:=h.lo;rcases h.at_ g hg with e|e
 ·have:=h.hl g e;refine⟨by omega,by omega,by omega,by omega,fun e'=>h.hp (by rw[e,e'])⟩
 exact⟨e.2.1,e.2.2.1,e.2.2.2.1,e.2.2.2.2,by omega⟩
theorem FdS.store(h:FdS w wx hA fb rb kb qb pb mb d f X A n c L)(hg:wx.grownBy wy (some qb))(hq:Box wy qb 158 Y):FdS w wy hA fb rb kb qb pb mb d f Y A n c L:=by
 obtain⟨n1,n2,n3,n4,n5,n6⟩:=h.ne;have fC:=h.lo
 exact⟨h.bf.grown hg (sne Wq),h.br.grown hg (sne Wq),h.bk.grown hg (sne Wq),hq,h.bp.grown hg (sne Wq),
  zk h.row hg (fun g Ho e=>by injection e with e;exact(h.off Ho).2.2.2.1 e.symm),h.keep.trans (.grown (F:=fun g=>g=qb) hg (fun g hg=>.inl Hx)) (fun g e=>.inr (by rw[e];omega)),h.lo,h.ne,h.hp,h.hl,h.at_⟩
theorem FdS.turn(h:FdS w wx hA fb rb kb qb pb mb d f X A n c L)(hg:wx.grownBy wy (blk A))(ho:OwnG wy 0 A2 n2 c2 L2)(hb:blk A2=blk A∨∀g,blk A2=some g→wx.heap.size≤g):FdS w wy hA fb rb kb qb pb mb d f X A2 n2 c2 L2:=by
 have fC:=h.lo;have z1:=h.bf.lt;have z2:=h.br.lt;have z3:=h.bk.lt;have z4:=h.bq.lt;have z5:=h.bp.lt
 exact⟨h.bf.grown hg (fun e=>(h.off e.symm).1 rfl),h.br.grown hg (fun e=>(h.off e.symm).2.1 rfl),h.bk.grown hg (fun e=>(h.off e.symm).2.2.1 rfl),h.bq.grown hg (fun e=>(h.off e.symm).2.2.2.1 rfl),h.bp.grown hg (fun e=>(h.off e.symm).2.2.2.2 rfl),
  ho,h.keep.trans (.grown (F:=fun g=>blk A=some g) hg (fun g hg=>.inl hg)) (fun g e=>by rcases h.at_ g e with e|e;exact .inl e;exact .inr e.1),h.lo,h.ne,h.hp,h.hl,fun g Ho=>by
   rcases hb with e|e
   ·rw[e]at Ho;exact h.at_ g Ho
   ·have:=e g Ho;exact .inr ⟨by have:=h.keep.1;omega,by omega,by omega,by omega,by omega⟩⟩
theorem FdS.drew(h:FdS w wx hA fb rb kb qb pb mb d f X A n c L):FdS w wx.drew hA fb rb kb qb pb mb d f X A n c L:=
 ⟨h.bf,h.br,h.bk,h.bq,h.bp,h.row,h.keep.trans (.below (za (KL _ _) 1)) (F':=fun _=>False) (fun _ h=>h.elim),h.lo,h.ne,h.hp,h.hl,h.at_⟩
theorem FdS.below(h:FdS w wx hA fb rb kb qb pb mb d f X A n c L)(hB:Below wx.heap.size wx wy):FdS w wy hA fb rb kb qb pb mb d f X A n c L:=
 ⟨h.bf.below hB,h.br.below hB,h.bk.below hB,h.bq.below hB,h.bp.below hB,zi h.row hB,h.keep.trans (.below hB) (F':=fun _=>False) (fun _ h=>h.elim),h.lo,h.ne,h.hp,h.hl,h.at_⟩
end
theorem Kw{P:Program}{o:Oper}{a:Act}{K:Act→World→Prop}{Q:Exit→Act→World→Prop}{t k:TypeId}{m x:Operand}{mv kv:Value}(ho:o.op=Op.call {callee:=Callee.builtin Builtin.delete,args:=#[m,x],argTypes:=#[t,k]})(hm:a.eval m=mv)(hk:a.eval x=kv){ty:TypeId}(mr:o.type=ty)(bv:(Builtin.delete_ #[t,k] ty #[mv,kv]).run P w= .ok (.tuple #[]) w')(h:K (a.put o.dst (.tuple #[])) w'):o.wp P a w K Q:=by
 unfold Oper.wp;simp[execOp,ho,resolve,invoke,builtin,hm,hk,mr,bv,Result.andThen];exact h
theorem vO{P:Program}{o:Oper}{a:Act}{K:Act→World→Prop}{Q:Exit→Act→World→Prop}{t:TypeId}{m x v:Operand}{mv kv vv:Value}(ho:o.op=Op.mapUpdate t m x v)(hm:a.eval m=mv)(hk:a.eval x=kv)(hv:a.eval v=vv)(bv:(Instr.mapUpdate t mv kv vv).run P w= .ok () w')(h:K (a.put o.dst undef) w'):o.wp P a w K Q:=by
 unfold Oper.wp;simp[execOp,ho,hm,hk,hv,bv,Result.andThen];exact h
end
section
section
variable {w wz : World} {F : Nat → Prop} {pb mb n N C : Nat} {g : GS} {f y : Fr} {D : DataW Value} {hd : Nat → Nat → Hd} {xf : Nat → Nat → Fr} {H : Hd} {A : Option Addr}
theorem kr(hm:GaMap w F mb n D hd xf g.op)(hf:f.wf)(lp:f.track≤1)(h0:g.op f.chan f.track=[]→H=⟨none,0,0⟩)(h1:g.op f.chan f.track≠ []→H=hd f.chan f.track)(hk:blk H.A=some k):
  g.op f.chan f.track≠ []∧blk (hd f.chan f.track).A=some k∧F k∧k≠mb∧k<w.heap.size:=by
 by_cases e:g.op f.chan f.track=[]
 ·rw[h0 e]at hk;cases hk
 rw[h1 e]at hk;obtain⟨_,h2⟩:=hm.row _ _ hf.2.2 Wq e;exact⟨e,hk,(h2 k hk).1,(h2 k hk).2,hm.lt _ (h2 k hk).1⟩
theorem Xj(hm:GaMap w F mb n D hd xf g.op)(hf:f.wf)(lp:f.track≤1)(h0:g.op f.chan f.track=[]→H=⟨none,0,0⟩)(h1:g.op f.chan f.track≠ []→H=hd f.chan f.track)(hK:KeepF (fun k=>k=mb∨blk H.A=some k) w wz):KeepF F w wz:=
 hK.weak fun k hk=>by
  rcases hk with rfl|hk
  ·exact .inl hm.inF
  exact .inl (kr hm hf lp h0 h1 hk).2.2.1
theorem KH(h0:g.op f.chan f.track=[]→H=⟨none,0,0⟩)(h1:g.op f.chan f.track≠ []→H=hd f.chan f.track)(hK:KeepF (fun k=>k=mb∨blk H.A=some k) w wz):
  ∀k,k<w.heap.size→k≠mb→(g.op f.chan f.track≠ []→blk (hd f.chan f.track).A≠some k)→wz.heap[k]?=w.heap[k]?:=fun k hk hne hr=>hK.2.1 k hk fun e=>by
 rcases e with e|e
 ·exact hne e
 ·by_cases e0:g.op f.chan f.track=[]
  ·rw[h0 e0]at e;cases e
  ·rw[h1 e0]at e;exact hr e0 e
theorem KI(hm:GaMap w F mb n D hd xf g.op)(hF:F pb)(hne:pb≠mb)(pC:∀a b,a<65536→b<65536→g.op a b≠ []→blk (hd a b).A≠some pb)(hlt:∀k,F k→k<w.heap.size)(hf:f.wf)(lp:f.track≤1)(ml:g.dead=false)(he:g.err f=0)(dm:(f.fin&&f.last)=false)
  (h0:g.op f.chan f.track=[]→H=⟨none,0,0⟩) (h1:g.op f.chan f.track≠ []→H=hd f.chan f.track) (hK:KeepF (fun k=>k=mb∨blk H.A=some k) w wz) (eE:Box wz pb 88 #[.map (some mb),.bool false])
  (o5:wz.ownsMap prog 156 rawV mb (n+1) (D.put (gkL f.chan f.track) (.held (.agg (jM ⟨A,N,C⟩ (zI (g.op f.chan f.track++ [f])) y (kA (g.op f.chan f.track++ [f]))))))) (hP:PartOk (g.op f.chan f.track++ [f]) y)
  (Ce:OwnG wz 0 A N C (zZ (g.op f.chan f.track++ [f]))) (Gx:∀k,blk A=some k→(blk H.A=some k∨w.heap.size≤k)):
  Kv w F pb n g f (.returned (.tuple #[.agg asZ,.bool false,.int .i64 0])) wz:=by
 have dR:g.next f=g.upd f.chan f.track (g.op f.chan f.track++ [f]):=by unfold GS.next;rw[if_neg Wq,dm];simp
 have cQ:g.out f=none:=by
  unfold GS.out;rw[if_neg];rintro⟨_,e1,e2⟩;rw[e1,e2]at dm;cases dm
 have lh:∀k,blk A=some k→k<wz.heap.size∧k≠mb∧(F k∨w.heap.size≤k)∧(w.heap.size≤k∨g.op f.chan f.track≠ []∧blk (hd f.chan f.track).A=some k):=fun k hk=>by
  have hl:=(Own.blk_lt Ce hk).2;rcases Gx k hk with e|e
  ·obtain⟨q1,q2,q3,q4,_⟩:=kr hm hf lp h0 h1 e;exact⟨hl,q4,.inl q3,.inr ⟨q1,q2⟩⟩
  exact⟨hl,by have:=hm.lt _ hm.inF;omega,.inr e,.inl e⟩
 have dj:=hm.set (w5:=wz) (F':=fun k=>F k∨(w.heap.size≤k∧k<wz.heap.size)) (a:=f.chan) (b:=f.track) hf.2.2 (show f.track<65536 by omega) (l:=g.op f.chan f.track++ [f]) (H:=⟨A,N,C⟩) (x:=y) (op':=(g.next f).op) (fun u v=>by rw[dR];rfl) o5 (KH h0 h1 hK)
  (fun u v lR=>⟨Maps.has_put_other lR _,fun z=>Maps.atKey_put_other lR _ z⟩) (fun e=>by simp at e)
  (fun _=>⟨Maps.has_put_same (Zi hm.owns) (gk_keyed.key (vP hf.2.2 Wq)) _,fun z=>Maps.atKey_put_same (Zi hm.owns) (gk_keyed.key (vP hf.2.2 Wq)) ..,hP,Ce,fun k hk=>by
   obtain⟨q1,q2,q3,q4⟩:=lh k hk
   exact⟨by rcases q3 with q3|q3;exact .inl q3;exact .inr ⟨q3,q1⟩,q2,q4⟩⟩)
  (fun k hk _=>.inl hk) (fun k hk=>by rcases hk with hk|hk;have:=hlt k hk;have:=hK.1;omega;exact hk.2)
 refine⟨_,fun k hk=>hk.imp id (fun e=>e.1),⟨⟨mb,_,_,_,?_,.inl hF,hne,fun _=>⟨fun a b ha hb lR=>?_,dj⟩⟩,dj.lt⟩,Xj hm hf lp h0 h1 hK,.inl ⟨cQ,by rw[he];rfl⟩⟩
 ·rw[dR];show Box wz pb _ #[_,.bool g.dead];rw[ml];exact eE
 rw[dR]at lR;have eJ:(if a=f.chan∧b=f.track then g.op f.chan f.track++ [f]else g.op a b)≠ []:=lR;by_cases q:a=f.chan∧b=f.track
 ·simp only[if_pos q];intro e;exact Z55_
 rw[if_neg q]at eJ;simp only[if_neg q];exact pC a b ha hb eJ
theorem zaP(hm:GaMap w F mb n D hd xf g.op)(hF:F pb)(hne:pb≠mb)(pC:∀a b,a<65536→b<65536→g.op a b≠ []→blk (hd a b).A≠some pb)(hlt:∀k,F k→k<w.heap.size)(hf:f.wf)(lp:f.track≤1)(ml:g.dead=false)(he:g.err f=0)(dm:(f.fin&&f.last)=true)
  (h0:g.op f.chan f.track=[]→H=⟨none,0,0⟩) (h1:g.op f.chan f.track≠ []→H=hd f.chan f.track) (hK:KeepF (fun k=>k=mb∨blk H.A=some k) w wz) (eE:Box wz pb 88 #[.map (some mb),.bool false])
  (o5:wz.ownsMap prog 156 rawV mb n (D.del (gkL f.chan f.track))) (hN:N=(zZ (g.op f.chan f.track++ [f])).length)
  (Ce:OwnG wz 0 A N C (zZ (g.op f.chan f.track++ [f]))) (Gx:∀k,blk A=some k→(blk H.A=some k∨w.heap.size≤k)) (hAs:g.op f.chan f.track≠ []→∀k,blk (hd f.chan f.track).A=some k→blk A=some k∨True):
  Kv w F pb n g f (.returned (.tuple #[.agg (asV f.chan f.track A N C),.bool true,.int .i64 0])) wz:=by
 have dR:g.next f=g.upd f.chan f.track []:=by unfold GS.next;rw[if_neg Wq,dm];simp
 have IK:f.fin=true∧f.last=true:=by simpa using dm
 have cQ:g.out f=some ⟨f.chan,f.track,zZ (g.op f.chan f.track++ [f])⟩:=by
  unfold GS.out;rw[if_pos ⟨he,IK.1,IK.2⟩]
 have W9:blk A≠some pb:=fun e=>by
  exact Z55_
 have Fm:∀k,blk A=some k→k<w.heap.size→g.op f.chan f.track≠ []∧blk (hd f.chan f.track).A=some k:=fun k hk hl=>by
  rcases Gx k hk with e|e
  ·obtain⟨q1,q2,_⟩:=kr hm hf lp h0 h1 e;exact⟨q1,q2⟩
  omega
 have dj:=hm.set (w5:=wz) (F':=fun k=>F k∧blk A≠some k) (a:=f.chan) (b:=f.track) hf.2.2 (show f.track<65536 by omega) (l:=[]) (H:=⟨none,0,0⟩) (x:=f) (op':=(g.next f).op) (fun u v=>by rw[dR];rfl) o5 (KH h0 h1 hK)
  (fun u v lR=>⟨Maps.has_del_other lR,fun z=>Maps.atKey_del_other lR z⟩) (fun _=>Maps.has_del_same) (fun e=>absurd rfl e)
  (fun k hk hr=>⟨hk,fun e=>by obtain⟨q1,q2⟩:=Fm k e (hlt k hk);exact hr q1 q2⟩) (fun k hk=>by have:=hlt k hk.1;have:=hK.1;omega)
 refine⟨_,fun k hk=>.inl hk.1,⟨⟨mb,_,_,_,?_,⟨hF,W9⟩,hne,fun _=>⟨fun a b ha hb lR=>?_,dj.mono (Nat.le_succ _)⟩⟩,dj.lt⟩,Xj hm hf lp h0 h1 hK,.inr ⟨_,A,C,cQ,?_,?_,fun b hb=>⟨fun e=>e.2 hb,?_⟩⟩⟩
 ·rw[dR];show Box wz pb _ #[_,.bool g.dead];rw[ml];exact eE
 ·rw[dR]at lR;have eJ:(if a=f.chan∧b=f.track then []else g.op a b)≠ []:=lR;by_cases q:a=f.chan∧b=f.track
  ·rw[if_pos q]at eJ;exact absurd rfl eJ
  rw[if_neg q]at eJ;simp only[if_neg q];exact pC a b ha hb eJ
 ·rw[hN]
 ·show OwnG wz 0 A (zZ _).length C _
  rw[←hN];exact Ce
 rcases Gx b hb with e|e
 ·exact .inl (kr hm hf lp h0 h1 e).2.2.1
 exact .inr e
end
end
theorem zbd(w:World):Calls prog 23 #[] w fun e w'=>e= .returned (.pointer (some ⟨w.heap.size+1,0,none⟩))∧Ga w' (fun g=>g=w.heap.size∨g=w.heap.size+1) (w.heap.size+1) 0 GS.new∧Below w.heap.size w w'∧w'.heap.size=w.heap.size+2:=by
 have nE:=fun W=>run_makeMap (P:=prog) 86 W
 go_enter func23,ntmps23;go_wp2_with(with_reducible refine h_A ?_);go_ret;have sL:=y4 w prog 156 rawV;have BW:(w.alloc (.map #[] 0)).heap.size=w.heap.size+1:=by simp
 have Ha:Below w.heap.size w (w.alloc (.map #[] 0)):=(KL _ _).alloc (Q2 _) _
 have cU:Box ((w.alloc (.map #[] 0)).alloc (.cells #[.map (some w.heap.size),.bool false] 88)) (w.heap.size+1) 88 #[.map (some w.heap.size),.bool false]:=by
  have:=Box.new (w.alloc (.map #[] 0)) #[.map (some w.heap.size),.bool false] 88;rwa[BW]at this
 have hlt:∀g,(g=w.heap.size∨g=w.heap.size+1)→g<((w.alloc (.map #[] 0)).alloc (.cells #[.map (some w.heap.size),.bool false] 88)).heap.size:=fun g hg=>by simp only[World.alloc,Array.size_push];omega
 refine⟨rfl,⟨⟨w.heap.size,.map [],fun _ _=>⟨none,0,0⟩,fun _ _=>fr00,cU,.inr rfl,by omega,fun _=>⟨fun a b _ _ hne=>absurd rfl hne,?_⟩⟩,hlt⟩,Ha.alloc Ha.size _,by simp⟩;exact⟨yj sL (Below.heap_alloc _ _ _ Wq),.inl rfl,fun a b _ _ _=>rfl,fun a b _ _ hne=>absurd rfl hne,fun a b _ _ hne=>absurd rfl hne,fun a b _ _ hne=>absurd rfl hne,fun a b c d _ _ _ _ hne=>absurd rfl hne,hlt⟩
def Zd(tr n t0 t1 t2:Nat):Bool:=(decide (tr=0)&&decide (n=1)&&decide (t0=0))||(decide (tr=1)&&decide (1≤n)&&decide (n≤3)&&decide (t0=1)&& !(decide (n=2)&&decide (t1≠2)&&decide (t1≠3))&& !(decide (n=3)&&(decide (t1≠2)||decide (t2≠3))))
def tyAt(l:List Sg)(i:Nat):Nat:=((l[i]?).map (·.ty)).getD 0
theorem refShape_iff{t0 t1 t2:Nat}:Zd tr n t0 t1 t2=true↔(tr=0∧n=1∧t0=0)∨(tr=1∧1≤n∧n≤3∧t0=1∧¬(n=2∧t1≠2∧t1≠3)∧¬(n=3∧(t1≠2∨t2≠3))):=by
 unfold Zd;simp only[Bool.or_eq_true,Bool.and_eq_true,Bool.not_eq_true',decide_eq_true_eq,Bool.and_eq_false_iff,Bool.or_eq_false_iff,decide_eq_false_iff_not];omega
theorem zbW(ch tr:Nat)(l:List Sg):asOk ⟨ch,tr,l⟩=(decide (yK l≤16384)&&Zd tr l.length (tyAt l 0) (tyAt l 1) (tyAt l 2)):=by
 rw[Bool.eq_iff_iff,Bool.and_eq_true,decide_eq_true_eq,refShape_iff];unfold asOk jN
 match l with
 | []=>simp
 | [s]=>
  have e1:tyAt [s] 0=s.ty:=rfl;rw[e1];generalize tyAt [s] 1=t1;generalize tyAt [s] 2=t2;simp only[xn,yK,Bool.and_eq_true,Bool.or_eq_true,decide_eq_true_eq,List.isEmpty_nil,k7,v5,and_true,or_true];constructor
  ·rintro⟨⟨h1,h2⟩,h3,h4⟩;refine⟨by omega,?_⟩;by_cases q:tr=0
   ·exact .inl ⟨q,trivial,by omega⟩
   exact .inr ⟨by omega,by omega,by omega,by omega,(fun e=>absurd e.1 WJ),(fun e=>absurd e.1 WJ)⟩
  rintro⟨h1,⟨h2,h3,h4⟩|⟨h2,h3,h4,h5,h6,h7⟩⟩
  ·exact⟨⟨by omega,by omega⟩,by omega,by omega⟩
  clear h6 h7 h3 h4
  exact⟨⟨by omega,by omega⟩,by omega,by omega⟩
 | [s,t]=>
  have e1:tyAt [s,t] 0=s.ty:=rfl;have e2:tyAt [s,t] 1=t.ty:=rfl;rw[e1,e2];generalize tyAt [s,t] 2=t2;simp only[xn,yK,Bool.and_eq_true,Bool.or_eq_true,decide_eq_true_eq,v9,k7,v5,and_true,or_false,Bool.false_eq_true];constructor
  ·rintro⟨⟨⟨h1,h2⟩,⟨h6,h7⟩,h8⟩,⟨h3,h4⟩,h5⟩;exact⟨by omega,by omega⟩
  rintro⟨h1,⟨h2,h3,h4⟩|⟨h2,h3,h4,h5,h6,h7⟩⟩
  ·omega
  have h8:t.ty=2∨t.ty=3:=by
   by_cases q2:t.ty=2
   ·exact .inl q2
   by_cases q3:t.ty=3
   ·exact .inr q3
   exact absurd ⟨trivial,q2,q3⟩ h6
  clear h6 h7 h3 h4
  exact⟨⟨⟨by omega,by omega⟩,⟨by omega,by omega⟩,by omega⟩,⟨by omega,by omega⟩,by omega⟩
 | [s,t,u]=>
  have e1:tyAt [s,t,u] 0=s.ty:=rfl;have e2:tyAt [s,t,u] 1=t.ty:=rfl;have e3:tyAt [s,t,u] 2=u.ty:=rfl;rw[e1,e2,e3];simp only[xn,yK,Bool.and_eq_true,Bool.or_eq_true,decide_eq_true_eq,v9,k7,v5,and_true,or_false,Bool.false_eq_true];constructor
  ·rintro⟨⟨⟨h1,h2⟩,⟨⟨h6,h7⟩,h8⟩,⟨h9,hA⟩,hB⟩,⟨h3,h4⟩,h5⟩;exact⟨by omega,by omega⟩
  rintro⟨h1,⟨h2,h3,h4⟩|⟨h2,h3,h4,h5,h6,h7⟩⟩
  ·omega
  have h8:t.ty=2∧u.ty=3:=by
   by_cases q2:t.ty=2
   ·by_cases q3:u.ty=3
    ·exact⟨q2,q3⟩
    exact absurd ⟨trivial,.inr q3⟩ h7
   exact absurd ⟨trivial,.inl q2⟩ h7
  clear h6 h7 h3 h4
  exact⟨⟨⟨by omega,by omega⟩,⟨⟨by omega,by omega⟩,by omega⟩,⟨by omega,by omega⟩,by omega⟩,⟨by omega,by omega⟩,by omega⟩
 | s::t::u::v::r=>
  simp only[xn,Bool.and_eq_true,Bool.or_eq_true,decide_eq_true_eq,k7,v9,Bool.false_eq_true,or_false];constructor
  ·rintro⟨⟨⟨⟨h1,_⟩,_⟩,⟨⟨h2,h3⟩,_⟩,⟨⟨h4,h5⟩,_⟩,⟨⟨h6,h7⟩,_⟩,_⟩,⟨h8,h9⟩,dV⟩;omega
  rintro⟨_,h|h⟩
  ·omega
  omega
theorem JW{l:List Sg}(h:i<l.length):yK (l.take (i+1))=yK (l.take i)+l[i].load.length:=by
 rw[List.take_succ_eq_append_getElem h,jO];simp[yK]
theorem za8(l:List Sg)(i:Nat):yK (l.take i)≤yK l:=by
 have:=jO (l.take i) (l.drop i);rw[List.take_append_drop]at this;omega
theorem Qw(a:As)(A:Option Addr)(n c:Nat)(B:Nat)(w:World)(hr:RdG w B A n c a.segs)(hB:B≤w.heap.size)(hw:a.wf)(hs:∀s∈a.segs,s.load.length≤140737488351232)(hn:n≤140737488351232):
  Calls prog 18 #[.agg (asV a.chan a.track A n c)] w fun e w'=>e= .returned (.int .i64 (xP a:Int))∧Below w.heap.size w w':=by
 have cX:=xr xd hr;obtain⟨ch,tr,l⟩:=a;obtain⟨ii,lp,mr⟩:=hw;simp only at*;obtain⟨xb,w0,bC,bh,hX,Hr⟩:=zo w (asV ch tr A n c) 42;have HN:=Q1 cX;have BF:=fun{i:Nat} (hi:i<n)=>qm xd hr hi
 have CY:=Q1 mr;have Se:=Q1 hs;have sw:w.heap.size≤xb:=by omega
 clear cX mr hs;obtain⟨E,hE⟩:∃E,E=xP ⟨ch,tr,l⟩:=⟨_,rfl⟩
 rw[←hE];have FD:=Q1 hE;clear hE;unfold asV at*;go_enter func18,ntmps18;go_upto_region 1 with fail;rw[←bC,←bh];clear bC bh;have x2:=hX.c2;go_wp2_with(with_reducible refine h_A ?_);go_loopw [3,4] (fun s3 s4 wr=>∃(i m:Nat),i≤n∧m≤16384∧s3= .int .i64 (m:Int)∧s4= .int .i64 (i:Int)∧Hid (yK (l.take i)=m)∧Box wr xb 42 #[.int .u16 (ch:Int),.int .u8 (tr:Int),.slice A n c]∧Below w.heap.size w wr) (fun _ s4 _=>n-(K2 s4).toNat)
 case atStart=>exact⟨0,0,by omega,by omega,rfl,rfl,Q1 rfl,hX,Hr⟩
 clear x2 hX Hr w0;obtain⟨i,m,hi,hm,rfl,rfl,HC,hX,bO⟩:=hrel;have x1:=hX.c1;have x2:=hX.c2;by_cases hlt:i<n
 ·have g1:(i:Int)<(n:Int):=by omega
  obtain⟨b,off,rfl,dP,bK,bD⟩:=BF hlt;have gc:b<w.heap.size:=by omega
  have k1:wr.cell? ⟨b,off+i*2+1,none⟩=some (.string (str l[i].load)):=(bO.cell (p:=⟨b,off+i*2+1,none⟩) gc).trans (bD 1 _ rfl);have mS:=Se.out _ (y6 bK);have mY:=Q1 (JW bK);have HLE:=Q1 (za8 l (i+1));clear bD;generalize l[i].load=s at*;have dr:=zh s;have fw:IntKind.i64.wrap ((16384:Int)-(m:Int))=(16384:Int)-(m:Int):=IntWalk.i64_in _ ⟨by omega,by omega⟩;by_cases c3:16384<m+s.length
  ·have d3:(16384:Int)-(m:Int)<(s.length:Int):=by omega
   have HV:Hid (E=70):=Q1 (by
    rw[FD.out];have h1:=HLE.out;rw[mY.out,HC.out]at h1;unfold xP;rw[zbW,decide_eq_false Wq]
    rfl)
   clear c3;exact Z6r_
  have d3:¬(16384:Int)-(m:Int)<(s.length:Int):=by omega
  go_wp2_with(with_reducible refine h_A ?_);exact⟨⟨i+1,m+s.length,by omega,by omega,by go_num,by go_num,Q1 (by rw[mY.out,HC.out]),hX,bO⟩,by simp[K2];omega⟩
 have g1:¬(i:Int)<(n:Int):=by omega
 obtain rfl:i=n:=by omega
 have Wd:Hid (E=if Zd tr i (tyAt l 0) (tyAt l 1) (tyAt l 2)=true then 0 else 70):=Q1 (by
  have h1:=HC.out;rw[j1 (by rw[HN.out];exact Q2 _)]at h1;rw[FD.out];unfold xP
  rw[zbW,decide_eq_true Wq,Bool.true_and,HN.out])
 have G9:∀j,j<i→∃b off,A=some ⟨b,off,none⟩∧wr.cell? ⟨b,off+j*2,none⟩=some (.int .u8 (tyAt l j:Int)):=fun j hj=>by
  obtain⟨b,off,e,dP,bK,bD⟩:=BF hj;refine⟨b,off,e,(bO.cell (p:=⟨b,off+j*2,none⟩) (by show b<_;omega)).trans ?_⟩;have h0:=bD 0 _ rfl;simp only[k6]at h0;rw[h0];unfold tyAt;rw[y8 bK];rfl
 have HA:=Wd;clear Wd BF FD;obtain⟨t0,Ry⟩:∃x,x=tyAt l 0:=⟨_,rfl⟩
 obtain⟨t1,AE⟩:∃x,x=tyAt l 1:=⟨_,rfl⟩
 obtain⟨t2,E9⟩:∃x,x=tyAt l 2:=⟨_,rfl⟩
 rw[←Ry,←AE,←E9]at HA;have H0:=Q1 Ry;have H1:=Q1 AE;have H2:=Q1 E9;clear Ry AE E9;by_cases a0:tr=0
 ·have qq9n:=();exact Z1y_
 have d0:¬(tr:Int)=0:=by omega
 by_cases a1:tr=1
 ·have d2:((tr:Nat):Int)=1:=by omega
  rw[d2]at x1;clear d0 d2;by_cases b0:i=0
  ·have qqdm:=();exact Z35_
  by_cases b3:3<i
  ·have qqdl:=();exact Z35_
  obtain⟨b,off,rfl,z0⟩:=G9 0 Wq;rw[←H0.out]at z0;simp only[kx,k6]at z0;by_cases q0:t0=1
  ·rw[show((t0:Nat):Int)=1 by omega]at z0;by_cases b1:i=1
   ·have qqeg:=();exact Z3i_
   obtain⟨b',off',e,z1⟩:=G9 1 Wq;(obtain⟨rfl,rfl⟩:b=b'∧off=off':=by simpa using e);rw[←H1.out]at z1;simp only[Nat.one_mul]at z1;clear e;by_cases b2:i=2
   ·subst b2;by_cases q1:t1=2
    ·have qqeh:=();exact Z3i_
    (have d5:¬(t1:Int)=2:=by omega);by_cases q2:t1=3
    ·exact Z3i_
    have qqdn:=();exact Z35_
   exact Z1y_
  exact Z35_
 have qqdo:=();exact Z35_
end Go.PH
section
namespace Go.PH
open Go.Proofs.Tryz
open Go.RowKit Go.Proofs Go.ChangeShapes Go.WideShapes Go.ChangeAt Go.Deep
variable {H : Type} {enc : TypeId × Value → H} {W : World}
def Sg.wf(s:Sg):Prop:=s.ty<256∧s.load.length≤140737488351232
def RSeg(s:Sg)(cs:List Value):Prop:=cs=sgC s∧s.wf
theorem zcW{cs:List Value}{a b:Value}(hl:cs.length=2)(h0:(cs.drop 0).take 1=[a])(h1:(cs.drop 1).take 1=[b]):cs=[a,b]:=by
 match cs,hl with
 | [x,y],_=>simp_all
theorem zcX{cs:List Value}{a b c:Value}(hl:cs.length=3)(h0:(cs.drop 0).take 1=[a])(h1:(cs.drop 1).take 1=[b])(h2:(cs.drop 2).take 1=[c]):cs=[a,b,c]:=by
 match cs,hl with
 | [x,y,z],_=>simp_all
theorem Ks:Reader enc prog W 84 RSeg:=fun fuel cs d p h hw=>by
 obtain⟨hl,hf⟩:=Ye underlying84 h hw;obtain⟨n0,h0,w0⟩:=hf 0 _ rfl (vD (k:=.u8) underlying5);obtain⟨s1,h1,w1⟩:=hf 1 _ rfl (Yd underlying9);have b0:=bounds_u8 w0;rw[(by kernel_rfl:prog.cellsOf 84=2)]at hl;have e0:n0=((n0.toNat:Nat):Int):=by omega
 rw[e0]at h0;exact⟨⟨n0.toNat,s1⟩,zcW hl h0 h1,by show n0.toNat<256;omega,w1⟩
def RAs(W:World)(a:As)(cs:List Value):Prop:=∃A n c,cs=(asV a.chan a.track A n c).toList∧a.wf∧(∀s∈a.segs,s.load.length≤140737488351232)∧RdG W W.heap.size A n c a.segs∧n≤140737488351232
theorem zax:Reader enc prog W 42 (RAs W):=fun fuel cs d p h hw=>by
 obtain⟨hl,hf⟩:=Ye underlying42 h hw;obtain⟨n0,h0,w0⟩:=hf 0 _ rfl (vD (k:=.u16) underlying39);obtain⟨n1,h1,w1⟩:=hf 1 _ rfl (vD (k:=.u8) underlying5);obtain⟨L,A,n,c,xs,h2,hR,hn,hk,hE⟩:=hf 2 _ rfl (vR underlying40 (by kernel_rfl:prog.cellsOf 84=2) (by kernel_rfl:prog.bytesOf 84=24) Wq Ks);have c0:=bounds_u16 w0;have c1:=bounds_u8 w1;rw[(by kernel_rfl:prog.cellsOf 42=3)]at hl;have e0:n0=((n0.toNat:Nat):Int):=by omega
 have e1:n1=((n1.toNat:Nat):Int):=by omega
 rw[e0]at h0;rw[e1]at h1;obtain⟨hs,gh⟩:=zdC (C:=Sg.wf) xd hR hn hE;have fp:=hs.cap;exact⟨⟨n0.toNat,n1.toNat,L⟩,A,n,c,zcX hl h0 h1 h2,⟨by show n0.toNat<65536;omega,by show n1.toNat<256;omega,fun s hs=>(gh s hs).1⟩,fun s hs=>(gh s hs).2,hs,by omega⟩
theorem zdB{d:DataW H}{ps:List MemPlace}{v:Value}{r:Reach}{b0:Nat}(t8:Value.okWide prog W r b0 42 v)(hd:DataW.Trod enc prog W 0 (fun _=>true) true 42 v d ps)
  {ts:List TypeId} {ds:List (DataW H)} {j:Nat} (hz:(DataW.weightsEach prog ts ds).all (· ≤reachBytes)=true) (ht:ts[j]?=some 42) (pi:ds[j]?=some d):∃(a:As) (A:Option Addr) (n c:Nat),v= .agg (asV a.chan a.track A n c)∧a.wf∧(∀s∈a.segs,s.load.length≤140737488351232)∧RdG W W.heap.size A n c a.segs∧n≤140737488351232:=by
 obtain⟨cs,rfl,_⟩:=okWide_struct underlying42 t8;obtain⟨g,A,n,c,h1,h2⟩:=K3 zax hd hz ht pi;refine⟨g,A,n,c,?_,h2⟩;simp only[Value.cells]at h1;congr 1;apply Array.ext';rw[h1]
end Go.PH
end
namespace Go.PH
open Go.RowKit Go.Proofs Go.Proofs.Tryz
variable {cs : Array Value} {b1 b2 b3 b4 bad : Bool} {x : Int} {l ld : List UInt8} {T a b base c ch g i k m mb n pb size t tr ty : Nat} {F : Nat → Prop} {A : Option Addr} {vb : Option Nat} {v : Value} {w w' : World}
def lk0(gp:Nat):Array Value:=#[.int .u8 0,.slice none 0 0,.pointer (some ⟨gp,0,none⟩),.int .u64 255,.int .u64 4096,.pointer none,.slice none 0 0,.slice none 0 0]
theorem YZ(w:World):Calls prog 10 #[] w fun e w'=>e= .returned (.pointer (some ⟨w.heap.size+2,0,none⟩))∧Ga w' (fun g=>g=w.heap.size∨g=w.heap.size+1) (w.heap.size+1) 0 GS.new∧Box w' (w.heap.size+2) 61 (lk0 (w.heap.size+1))∧Below w.heap.size w w':=by
 have hg:=zbd w;go_enter func10,ntmps10;go_wp2_with(with_reducible refine h_A ?_);refine hg.mono ?_;rintro e w1 ⟨rfl,hG,hB,hz⟩;have HZ:=Q1 hz;clear hz hg;obtain⟨lb,w2,bC,bh,hL,Hc⟩:=zo w1 (lk0 (w.heap.size+1)) 61;unfold lk0 at bh;go_wp2_with(with_reducible refine h_A ?_);rw[←bh,←bC];go_ret;have e1:lb=w.heap.size+2:=by rw[bC,HZ.out]
 rw[e1]at hL ⊢;exact⟨rfl,hG.below Hc,hL,hB.trans (Hc.mono hB.size)⟩
theorem qD(lb st gp:Nat)(w:World)(h0:w.cell? ⟨lb,0,none⟩=some (.int .u8 (st:Int)))(h2:w.cell? ⟨lb,2,none⟩=some (.pointer (some ⟨gp,0,none⟩))):Calls prog 15 #[.pointer (some ⟨lb,0,none⟩)] w fun e w'=>e= .returned (.int .u8 (st:Int))∧w=w':=by
 go_enter func15,ntmps15;go_wp2_with(with_reducible refine h_A ?_);go_ret;exact⟨rfl,rfl⟩
theorem ji(h:x=8∨qK x=false):zE n x=2:=by
 unfold zE;rw[if_neg];intro h';rcases h with rfl|h
 ·omega
 have:=qL (w:=x) Wq;rw[h]at this;cases this
theorem yQ{s:List UInt8}(h:zE s.length x≠0):zP l s x=[]:=by unfold zP;rw[if_neg h]
theorem yS{s:List UInt8}(h:zE s.length x=0):zP l s x=l++be x.toNat s.length++s:=by unfold zP;rw[if_pos h]
theorem qC(A:Option Addr)(n c:Nat)(l s:List UInt8)(x:Int)(w:World)(hb:RdB w w.heap.size A n c l)(hs:s.length≤140737488351232)(hn:n≤140737488351240):
  Calls prog 102 #[.slice A n c,.string (str s),.int .i64 x] w fun e w'=>∃A2 c2,e= .returned (.tuple #[.slice A2 (zP l s x).length c2,.int .i64 (zE s.length x)])∧Own w' w.heap.size 5 1 A2 (zP l s x).length c2 ((zP l s x).map u8v)∧Below w.heap.size w w':=by
 have hl:=hb.length;have dr:=zh s;by_cases h8:x=8
 ·rw[ji (.inl h8),yQ (by rw[ji (.inl h8)];omega)];subst h8;go_enter func102,ntmps102;exact Z5o_
 by_cases hw:qK x=true
 ·rcases(show x=1∨x=2∨x=4 by rw[Zm]at hw;omega)with rfl|rfl|rfl
  ·have qq88:=();exact Z1k_
  ·have qq89:=();exact Z1k_
  exact Z1k_
 have nu:qK x=false:=by simpa using hw
 rw[ji (.inr nu),yQ (by rw[ji (.inr nu)];omega)];go_enter func102,ntmps102;go_wp2_with(with_reducible refine h_A ?_);refine(qo x w).mono ?_;rw[nu];exact Z57_
theorem vL(x:Int)(w:World):Calls prog 142 #[.int .i64 x] w fun e w'=>e= .returned (.bool (qK x))∧w'=w:=by
 exact Z20_
theorem ZP(h:Below w.heap.size w w')(row:Option Nat):w.grownBy w' row:=⟨h.os,h.tape,h.output,h.size,fun k hk _=>h.block k hk⟩
theorem ZQ(w:World)(row:Option Nat):w.grownBy w.drew row:=⟨rfl,rfl,rfl,Q2 _,fun _ _ _=>rfl⟩
theorem ki(w:World)(a:Addr)(u:Value):w.grownBy (w.setCell a u) (some a.block):=
 ⟨rfl,rfl,rfl,by simp,fun k _ hk=>z7 _ _ _ k (fun e=>hk (by rw[e]))⟩
theorem XH(A:Option Addr)(n c:Nat)(l:List UInt8)(w:World)(hb:RdB w w.heap.size A n c l)(hn:n≤140737488351240):
  Calls prog 76 #[.slice A n c] w fun e w'=>∃A2 c2,e= .returned (.slice A2 n c2)∧Own w' w.heap.size 5 1 A2 n c2 (l.map u8v)∧Below w.heap.size w w':=by
 have hl:=hb.length;have E7:=run_eql_slice_nil (P:=prog) w 55 _ A n c underlying55;rcases A with _|ad
 ·have rW:n=0:=by
   rcases y5 n with h0|h0
   ·exact h0
   obtain⟨b,off,e,_⟩:=hb.at_ h0;cases e
  subst rW;obtain rfl:=ky hl;go_enter func76,ntmps76;go_wp2_with(with_reducible refine h_A ?_);go_ret;exact⟨none,0,rfl,Own.none_ _ _ _ _,KL _ _⟩
 go_enter func76,ntmps76;go_wp2_with(with_reducible refine h_A ?_);have b7:=yq (w:=w) w.heap.size #[] 5 0 (Q2 _) WX rfl (size:=1) Wq;have Ha:Below w.heap.size w (w.alloc (.cells #[] 5)):=(KL _ _).alloc (Q2 _) _;refine zc (yc (base:=w.heap.size) slB rfl rfl rfl rfl b7 (hb.below Ha) (zM l) Wq UJ Wz ?_);intro A2 c2 w2 bW Hm _;have Hc:Below w.heap.size w w2:=Ha.grown Hm Wz (fun g hg=>(b7.blk_lt hg).1);simp only[y0,v0]at bW;go_wp2_with(with_reducible refine h_A ?_);go_ret;exact⟨A2,c2,by first|rfl|simp,bW,Hc⟩
def Rdr(F:Nat→Prop)(w:World)(v:Value)(vb:Option Nat)(l:List UInt8)(bad:Bool):Prop:=
 (v= .pointer none∧vb=none∧l=[]∧bad=true)∨
 (∃rb,v= .pointer (some ⟨rb,0,none⟩)∧vb=none∧l=[]∧bad=true∧w.cell? ⟨rb,0,none⟩=some (.pointer none)∧F rb)∨
 (∃rb b A n c,v= .pointer (some ⟨rb,0,none⟩)∧vb=some b∧rb≠b∧w.cell? ⟨rb,0,none⟩=some (.pointer (some ⟨b,0,none⟩))∧w.cell? ⟨b,0,none⟩=some (.slice A n c)∧
  w.cell? ⟨b,1,none⟩=some (.bool true)∧w.cell? ⟨b,2,none⟩=some (.bool bad)∧w.frozen? ⟨b,0,none⟩=false∧w.frozen? ⟨b,2,none⟩=false∧RdB w w.heap.size A n c l∧blk A≠some b∧n≤140737488351240∧F rb∧F b∧∀g,blk A=some g→F g)
theorem Vr(w:World):Calls prog 107 #[.pointer none] w fun e w'=>e= .returned (.bool true)∧w'=w:=by
 go_enter func107,ntmps107;go_wp2_with(with_reducible refine h_A ?_);go_ret;exact⟨rfl,rfl⟩
theorem Vs(w:World)(b:Nat)(bad:Bool)(h1:w.cell? ⟨b,1,none⟩=some (.bool true))(h2:w.cell? ⟨b,2,none⟩=some (.bool bad)):
  Calls prog 107 #[.pointer (some ⟨b,0,none⟩)] w fun e w'=>e= .returned (.bool bad)∧w'=w:=by
 cases bad
 all_goals
  go_enter func107,ntmps107;go_wp2_with(with_reducible refine h_A ?_);go_ret;exact⟨rfl,rfl⟩
theorem JY(w:World):Calls prog 108 #[.pointer none] w fun e w'=>e= .returned (.int .i64 0)∧w'=w:=by
 exact Z63_
theorem JZ(w:World)(b:Nat)(h0:w.cell? ⟨b,0,none⟩=some (.slice A n c)):
  Calls prog 108 #[.pointer (some ⟨b,0,none⟩)] w fun e w'=>e= .returned (.int .i64 n)∧w'=w:=by
 exact Z63_
theorem Rdr.kept{row:Option Nat}(h:Rdr F w v vb l bad)(hg:w.grownBy w' row)(hne:∀g,row=some g→¬F g):Rdr F w' v vb l bad:=by
 rcases h with h|⟨rb,h1,h2,h3,h4,h5,hF⟩|⟨rb,b,A,n,c,h1,h2,h3,h4,h5,h6,h7,h8,h9,hr,dV,fa,T9,wH,mP⟩
 ·exact .inl h
 ·exact .inr (.inl ⟨rb,h1,h2,h3,h4,hg.cell h5 (fun e=>hne _ e.symm hF),hF⟩)
 have hb:b<w.heap.size:=K1 w _ h5
 refine .inr (.inr ⟨rb,b,A,n,c,h1,h2,h3,hg.cell h4 (fun e=>hne _ e.symm T9),hg.cell h5 (fun e=>hne _ e.symm wH),hg.cell h6 (fun e=>hne _ e.symm wH),hg.cell h7 (fun e=>hne _ e.symm wH),
  (hg.frozen_far ⟨b,0,none⟩ hb (fun e=>hne _ e.symm wH)).trans h8,(hg.frozen_far ⟨b,2,none⟩ hb (fun e=>hne _ e.symm wH)).trans h9,(hr.grown_ne hg (Q2 _) ?_).more hg.size,dV,fa,T9,wH,mP⟩)
 rcases hA:blk A with _|g
 ·exact .inl rfl
 exact .inr fun e=>hne g e.symm (mP g hA)
theorem Rdr.below(h:Rdr F w v vb l bad)(hB:Below w.heap.size w w'):Rdr F w' v vb l bad:=h.kept (ZP hB none) Wz
theorem Rdr.drew(h:Rdr F w v vb l bad):Rdr F w.drew v vb l bad:=h.kept (ZQ w none) Wz
theorem Rdr.inF(h:Rdr F w v vb l bad)(hg:vb=some g):F g:=by
 rcases h with⟨_,rfl,_⟩|⟨_,_,rfl,_⟩|⟨rb,b,A,n,c,_,rfl,_,_,_,_,_,_,_,_,_,_,_,hF,_⟩
 ·cases hg
 ·cases hg
 cases hg;exact hF
theorem Rdr.len(h:Rdr F w v vb l bad):l.length≤140737488351240:=by
 rcases h with⟨_,_,rfl,_⟩|⟨_,_,_,rfl,_⟩|⟨rb,b,A,n,c,_,_,_,_,_,_,_,_,_,hr,_,hn,_⟩
 ·simp
 ·simp
 rw[hr.length];exact hn
theorem yD(h:Rdr F w v vb l bad):
  Calls prog 77 #[v] w fun e w'=>e= .returned (.bool bad)∧w'=w:=by
 have qqb9:=();exact Z2c_
theorem yN(h:Rdr F w v vb l bad):
  Calls prog 78 #[v] w fun e w'=>e= .returned (.int .i64 l.length)∧w'=w:=by
 exact Z2c_
theorem xk(h:Rdr F w v vb l bad):
  Calls prog 79 #[v] w fun e w'=>e= .returned (.tuple #[])∧Rdr F w' v vb [] true∧w.grownBy w' vb:=by
 rcases h with⟨rfl,rfl,rfl,rfl⟩|⟨rb,rfl,rfl,rfl,rfl,hc,hF⟩|⟨rb,b,A,n,c,rfl,rfl,hne,hc,h0,h1,h2,mM,fJ,hr,hA,hn,hF⟩
 ·go_enter func79,ntmps79;go_wp2_with(with_reducible refine h_A ?_);go_end0;exact⟨rfl,.inl ⟨rfl,rfl,rfl,rfl⟩,vz.refl _ _⟩
 ·go_enter func79,ntmps79;go_wp2_with(with_reducible refine h_A ?_);go_end0;exact⟨rfl,.inr (.inl ⟨rb,rfl,rfl,rfl,rfl,hc,hF⟩),vz.refl _ _⟩
 go_enter func79,ntmps79;go_wp2_with(with_reducible refine h_A ?_);have hS:w.drew.cell? ⟨rb,0,none⟩=some (.pointer (some ⟨b,0,none⟩)):=hc;have hhd:w.drew.frozen? ⟨b,0,none⟩=false:=mM;have NT:w.drew.cell? ⟨b,0,none⟩=some (.slice A n c):=h0;refine zt (fun wx=>wx.cell? ⟨rb,0,none⟩=some (.pointer (some ⟨b,0,none⟩))) Wj ?_;refine rg_t 0 hS ?_;simp only[Vy,VB,Act.put,Vx,q5,q6];refine rg_t 1 hS ?_;simp only[g_S];refine rg_t 2 hS ?_;simp only[g_S];refine rg_t 3 hS ?_;simp only[g_S];refine rg_t 4 hS ?_;simp only[g_S];refine rg_t 5 hS ?_;simp only[g_S];refine rg_t 6 hS ?_;simp only[g_S];refine rg_t 7 hS ?_;simp only[g_S];refine rg_t 8 hS ?_;simp only[g_S];refine rg_t 9 hS ?_;simp only[g_S];refine zj 10 rfl Wj rfl (fun K hK=>?_);go_simp;have BH:(w.drew.setCell ⟨b,0,none⟩ (.slice none 0 0)).cell? ⟨rb,0,none⟩=some (.pointer (some ⟨b,0,none⟩)):=(kI _ _ _ _ (fun e=>hne e.symm)).trans hS;have Wp:(w.drew.setCell ⟨b,0,none⟩ (.slice none 0 0)).frozen? ⟨b,2,none⟩=false:=by simp[fJ]
 refine hK _ _ BH ?_;clear hK K;refine rg_t 11 BH ?_;simp only[g_S];refine rg_t 12 BH ?_;simp only[g_S];refine zj 13 rfl Wj rfl (fun K hK=>?_);go_simp;refine hK _ _ ((kI _ _ _ _ (fun e=>hne e.symm)).trans BH) ?_;clear hK K;refine zD Wj ?_;go_end0;refine⟨rfl,.inr (.inr ⟨rb,b,none,0,0,rfl,rfl,hne,?_,?_,?_,?_,?_,?_,Rd.nil _ _ _ _ WX _,by simp[blk],by omega,hF.1,hF.2.1,by simp[blk]⟩),?_⟩
 ·exact(kI _ _ _ _ (fun e=>hne e.symm)).trans BH
 ·change j2 ((w.setCell ⟨b,0,none⟩ (.slice none 0 0)).setCell ⟨b,2,none⟩ (.bool true)) _=_;rw[q7 _ _ _ _ Wz];exact j8 _ _ _ h0
 ·change j2 ((w.setCell ⟨b,0,none⟩ (.slice none 0 0)).setCell ⟨b,2,none⟩ (.bool true)) _=_;rw[q7 _ _ _ _ Wz,q7 _ _ _ _ Wz];exact h1
 ·change j2 ((w.setCell ⟨b,0,none⟩ (.slice none 0 0)).setCell ⟨b,2,none⟩ (.bool true)) _=_;refine j8 _ _ _ (u:=.bool bad) ?_;rw[q7 _ _ _ _ Wz];exact h2
 ·simp[mM]
 ·simp[fJ]
 exact((ki w ⟨b,0,none⟩ (.slice none 0 0)).trans (ki _ ⟨b,2,none⟩ (.bool true))).trans ⟨rfl,rfl,rfl,Q2 _,fun _ _ _=>rfl⟩
theorem kj(h:Rdr F w v vb l bad)(x:Int)(hx: -9223372036854775808≤x)(pp:x≤9223372036854775807):
  Calls prog 53 #[v,.int .i64 x] w fun e w'=>∃A2 c2,e= .returned (.slice A2 (xe l bad x).1.length c2)∧Own w' w.heap.size 5 1 A2 (xe l bad x).1.length c2 ((xe l bad x).1.map u8v)∧
   Rdr F w' v vb (xe l bad x).2.1 (xe l bad x).2.2∧w.grownBy w' vb:=by
 by_cases ei:bad=true
 ·have qqcm:=();exact Z2u_
 obtain rfl:bad=false:=by simpa using ei
 by_cases sk:x<0
 ·have qqcn:=();exact Z2u_
 by_cases bQ:(l.length:Int)<x
 ·exact Z2u_
 obtain⟨m,rfl⟩:∃m:Nat,x=m:=⟨x.toNat,by omega⟩
 have hm:m≤l.length:=by omega
 rw[xp hm];have h':=h;rcases h with⟨_,_,_,hb⟩|⟨_,_,_,_,hb,_⟩|⟨rb,b,A,n,c,rfl,rfl,hne,hc,h0,h1,h2,mM,fJ,hr,hA,hn,hF⟩
 ·cases hb
 ·cases hb
 have hl:=hr.length;have fp:=hr.cap;go_enter func53,ntmps53;go_wp2_with(with_reducible refine h_A ?_);refine(yD h').mono ?_;rintro e w' ⟨rfl,rfl⟩;go_wp2_with(with_reducible refine h_A ?_);refine(yN h').mono ?_;rintro e w' ⟨rfl,rfl⟩;go_wp2_with(with_reducible refine h_S ?_);refine zc (zbP slB rfl rfl rfl hr 0 m c (.inl ⟨rfl,rfl⟩) (.inr ⟨_,_,rfl,rfl⟩) (.inl ⟨rfl,rfl⟩) mq Wq Wq (Q2 _) Wq ?_);intro A1 dT;simp only[kx,q8,y9,←zB,xT]at dT;go_wp2_with(with_reducible refine h_S ?_);refine(XH A1 m c (l.take m) _ dT Wq).mono ?_;rintro e w1 ⟨A2,c2,rfl,bW,hB⟩;go_wp2_with(with_reducible refine h_A ?_);have gc:b<w'.heap.size:=K1 w' _ h0;have nO:rb<w'.heap.size:=K1 w' _ hc;have ck:w1.drew.cell? ⟨rb,0,none⟩=some (.pointer (some ⟨b,0,none⟩)):=(hB.cell nO).trans hc;have GY:w1.drew.cell? ⟨b,0,none⟩=some (.slice A n c):=(hB.cell gc).trans h0;have fa:w1.cell? ⟨b,1,none⟩=some (.bool true):=(hB.cell (p:=⟨b,1,none⟩) gc).trans h1;have aW:w1.cell? ⟨b,2,none⟩=some (.bool false):=(hB.cell (p:=⟨b,2,none⟩) gc).trans h2;have Er:w1.drew.frozen? ⟨b,0,none⟩=false:=(xB (w:=w') (w':=w1.drew) (hB.block b gc)).trans mM;have Pn:w1.drew.frozen? ⟨b,2,none⟩=false:=(xB (w:=w') (w':=w1.drew) (hB.block b gc)).trans fJ;have B1:RdB w1 w'.heap.size A n c l:=hr.below hB;have MT:=fun wS:World=>kT (A:=A) slB wS hr.max hr.cap (lo:=some (.int .i64 (m:Int))) (hi:=none) (mx:=none) m n c (.inr ⟨_,_,rfl,rfl⟩) (.inl ⟨rfl,rfl⟩) (.inl ⟨rfl,rfl⟩) mq Wq Wq (Q2 _) (Q2 _)
 have hq:=MT w1.drew;refine zt (fun wx=>wx.cell? ⟨rb,0,none⟩=some (.pointer (some ⟨b,0,none⟩))) Wj ?_;refine rg_t 0 ck ?_;simp only[Vy,VB,Act.put,Vx,q5,q6];refine rg_t 1 ck ?_;simp only[g_S];refine rg_t 2 ck ?_;simp only[g_S];refine rg_t 3 ck ?_;simp only[g_S];refine rg_t 4 ck ?_;simp only[g_S];refine rg_t 5 ck ?_;simp only[g_S];refine rg_t 6 ck ?_;simp only[g_S];refine rg_t 7 ck ?_;simp only[g_S];refine rg_t 8 ck ?_;simp only[g_S];refine rg_t 9 ck ?_;simp only[g_S];refine rg_t 11 ck ?_;simp only[g_S];refine zj 10 rfl Wj rfl (fun K hK=>?_);go_simp;refine hK _ _ ck ?_;clear hK K;refine zj 12 rfl Wj rfl (fun K hK=>?_);go_simp;refine hK _ _ ck ?_;clear hK K;refine rg_t 13 ck ?_;simp only[g_S];refine rg_t 14 ck ?_;simp only[g_S];refine zj 15 rfl Wj rfl (fun K hK=>?_);go_simp;refine hK _ _ ((kI _ _ _ _ (fun e=>hne e.symm)).trans ck) ?_;clear hK K;refine zD Wj ?_;go_wp2_with(with_reducible refine h_A ?_);go_ret;have cf:∀g,blk A2=some g→w'.heap.size≤g:=fun g hg=>(bW.blk_lt hg).1
 have pc:=(ki w1 ⟨b,0,none⟩ (.slice (cutA A 1 m c) (n-m) (c-m))).trans (ZQ _ _);refine⟨A2,c2,by simp[Array.getD,xA hm],?_,?_,?_⟩
 ·rw[List.length_take,xA hm];refine bW.kept pc (.inr fun e=>?_);rw[xh]at e;have:w'.heap.size≤b:=cf _ e;omega
 ·refine .inr (.inr ⟨rb,b,cutA A 1 m c,n-m,c-m,rfl,rfl,hne,?_,?_,?_,?_,?_,?_,?_,?_,by omega,hF.1,hF.2.1,fun g hg=>hF.2.2 g (by rwa[jx]at hg)⟩)
  ·exact(kI _ _ _ _ (fun e=>hne e.symm)).trans ck
  ·exact j8 _ _ _ GY
  ·exact(q7 _ _ _ _ Wz).trans fa
  ·exact(q7 _ _ _ _ Wz).trans aW
  ·simpa using Er
  ·simpa using Pn
  ·have h3:=kU B1 m n c Wq Wq (Q2 _) (Q2 _)
   have e3:(((l.map u8v).take (n*1)).drop (m*1))=(l.drop m).map u8v:=by
    rw[q8,q8,j1 Hq,zA]
   rw[e3]at h3;have h4:RdB w1 w1.heap.size (cutA A 1 m c) (n-m) (c-m) (l.drop m):=h3.more hB.size;exact(h4.grown_ne pc (Q2 _) (.inr (by rw[jx];exact hA))).more pc.size
  rw[jx];exact hA
 exact(ZP hB (some b)).trans pc
theorem qE(A:Option Addr)(n c:Nat)(l:List UInt8)(w:World)(hb:RdB w w.heap.size A n c l)(hn:n≤140737488351240):
  Calls prog 52 #[.slice A n c] w fun e w'=>∃rb b,e= .returned (.pointer (some ⟨rb,0,none⟩))∧w.heap.size≤rb∧w.heap.size≤b∧Rdr (fun g=>w.heap.size≤g∧g<w'.heap.size) w' (.pointer (some ⟨rb,0,none⟩)) (some b) l false∧Below w.heap.size w w':=by
 go_enter func52,ntmps52;go_wp2_with(with_reducible refine h_A ?_);refine(XH A n c l w hb hn).mono ?_;rintro e w1 ⟨A2,c2,rfl,bW,hB⟩;go_wp2_with(with_reducible refine h_A ?_);go_ret;have Ha:Below w.heap.size w (w1.alloc (.cells #[.slice A2 n c2,.bool true,.bool false] 151)):=hB.alloc hB.size _;refine⟨w1.heap.size+1,w1.heap.size,rfl,by have:=hB.size;omega,hB.size,.inr (.inr ⟨_,_,A2,n,c2,rfl,rfl,by omega,?_,?_,?_,?_,?_,?_,?_,?_,hn,?_,?_,?_⟩),Ha.alloc (by have:=Ha.size;omega) _⟩
 ·simp
 ·simp
 ·simp
 ·simp
 ·simp
 ·simp
 ·exact Own.rd (base:=w.heap.size) (e:=5) ((bW.alloc _).alloc _)
 ·intro e;have:=(bW.blk_lt e).2;omega
 ·have:=hB.size;simp;omega
 ·have:=hB.size;simp;omega
 intro g hg;have h1:=(bW.blk_lt hg).1;have h2:=(bW.blk_lt hg).2;simp;omega
theorem zcv(k x:Nat)(hk:k<72057594037927936)(hx:x<256):bits .or .u64 (IntKind.u64.wrap ((k:Int)*256)) (x:Int)=((256*k+x:Nat):Int):=by
 have h1:IntKind.u64.wrap ((k:Int)*256)=((256*k:Nat):Int):=by rw[IntKind.wrap_u64];omega
 rw[h1,u64_or_nat _ _ Wq Wq];have:=Nat.two_pow_add_eq_or_of_lt (i:=8) (b:=x) Wq k;rw[←this]
theorem yn(h:Rdr F w v vb l bad)(x:Int)(hx: -9223372036854775808≤x)(pp:x≤9223372036854775807):
  Calls prog 54 #[v,.int .i64 x] w fun e w'=>e= .returned (.int .u64 ((mnum l bad x).1:Nat))∧Rdr F w' v vb (mnum l bad x).2.1 (mnum l bad x).2.2∧w.grownBy w' vb:=by
 have qq7b:=();exact Z18_
theorem Vq{x:Nat}(hx:x=1∨x=2∨x=4∨x=8)(h:x≤l.length):mnum l false (x:Int)=(unbe (l.take x),l.drop x,false):=by
 rw[qG (qL Wq),xp h]
theorem xj(h:i<l.length):zX l i=l[i].toNat:=by simp[zX,List.getD,y8 h]
theorem qv(l:List UInt8)(i:Nat):zX l i<256:=(l.getD i 0).toNat_lt
theorem Jg(l:List UInt8)(i:Nat)(h:i+2≤l.length):unbe ((l.drop i).take 2)=256*zX l i+zX l (i+1):=by
 rw[v4 Wq,v4 (show i+1<l.length by omega),xj (show i<l.length by omega),xj (show i+1<l.length by omega),xy,xy,yA];unfold unbe;simp only[List.foldl_cons,List.foldl_nil];omega
theorem kh(l:List UInt8)(i k:Nat)(h:i<k):zX (l.take k) i=zX l i:=by
 simp[zX,List.getD,List.getElem?_take,h]
theorem Yr(l:List UInt8):frN l=256*zX l 2+zX l 3:=rfl
theorem vf{rest:List UInt8}{l:List Fr}{u:Nat}{fs r:List Fr×Nat×Nat}(h:fs=(l++(zu rest).1,u+(zu rest).2.1,(zu rest).2.2))(hr:zu rest=r):fs=(l++r.1,u+r.2.1,r.2.2):=by rw[h,hr]
theorem Jh(A:Option Addr)(n c:Nat)(b:List UInt8)(w:World)(hr:RdB w w.heap.size A n c b)(hn:n≤1000000000):
  Calls prog 38 #[.slice A n c] w fun e w'=>∃A2 c2,e= .returned (.tuple #[.slice A2 (zu b).1.length c2,.int .i64 (zu b).2.1,.int .i64 (zu b).2.2])∧OwnF w' w.heap.size A2 (zu b).1.length c2 (zu b).1∧Below w.heap.size w w':=by
 have hl:=RdB.length hr;have fp:=hr.cap;obtain⟨fs,DA⟩:∃fs,fs=zu b:=⟨_,rfl⟩
 rw[←DA];go_enter func38,ntmps38;go_wp2_with(with_reducible refine h_A ?_);go_loopw [6,5] (fun s v wr=>∃(u N c2:Nat) (A2:Option Addr) (l:List Fr),u≤n∧s= .int .i64 u∧v= .slice A2 N c2∧l.length=N∧N≤u∧fs=(l++(zu (b.drop u)).1,u+(zu (b.drop u)).2.1,(zu (b.drop u)).2.2)∧OwnF wr w.heap.size A2 N c2 l∧Below w.heap.size w wr) (fun s _ _=>n-(K2 s).toNat)
 case atStart=>exact⟨0,0,0,none,[],by omega,rfl,rfl,rfl,by omega,by rw[DA];simp,Own.none_ _ _ _ _,KL _ _⟩
 obtain⟨u,N,c2,A2,l,hu,rfl,rfl,wo,hNu,AQ,ho,bO⟩:=hrel;have Ot:=Q1 AQ;have ln:=Q1 wo;clear AQ DA wo;have hz:=bO.size;go_wp2_with(with_reducible refine h_S ?_);refine zc (kD slB rfl rfl rfl (hr.below bO) u n c (.inr ⟨_,_,rfl,rfl⟩) (.inl ⟨rfl,rfl⟩) (.inl ⟨rfl,rfl⟩) mq Wq Wq (Q2 _) (Q2 _) ?_);intro A3 cl _;simp only[q8]at cl;rw[j1 Hq,←zA]at cl;have im:(b.drop u).length=n-u:=by simp;omega
 generalize dp:b.drop u=rest at*;have tQ:=Q1 dp;clear dp;obtain⟨R,hR⟩:∃R,R=n-u:=⟨_,rfl⟩
 obtain⟨D,hD⟩:∃D,D=c-u:=⟨_,rfl⟩
 rw[←hR,←hD]at cl ⊢;rw[←hR]at im;have Lc:R≤1000000000:=by omega
 have HRU:=Q1 (show R+u=n by omega);clear hR hD;have M6:Rd w w.heap.size 1 A3 R D (rest.map u8v):=Rd.keep cl (fun p hp=>(bO.cell hp).symm);have px:=zaO A3 R D rest w.heap.size wr cl hz Wq
 cases dk:zN rest
 ·have qqd4:=();exact Z2z_
 rw[dk]at px;by_cases gi:rest.length<12
 ·exact Z2z_
 have Gi:¬(R:Int)<12:=by omega
 have PP:=qe dk Wq;have dd:=xS dk (k:=0) Wq Wq Wq;have HW:=Q1 dk;clear dk;have d9:(rest.take 12).length=12:=by simp;omega
 have sL:xe (rest.take 12) false 2=((rest.take 12).take 2,(rest.take 12).drop 2,false):=xp (n:=2) Wq
 have gG:mnum ((rest.take 12).drop 2) false 2=(frN rest,(rest.take 12).drop 4,false):=by
  refine(Vq (x:=2) Wq Hq).trans ?_;rw[Jg _ 2 Wq,kh _ _ _ Wq,kh _ _ _ Wq,Yr,k8]
 have dU:xe ((rest.take 12).drop 4) false 2=(((rest.take 12).drop 4).take 2,(rest.take 12).drop 6,false):=(xp (n:=2) Hq).trans (by rw[k8])
 have m7:mnum ((rest.take 12).drop 6) false 2=(256*zX rest 6+zX rest 7,(rest.take 12).drop 8,false):=by
  refine(Vq (x:=2) Wq Hq).trans ?_;rw[Jg _ 6 Wq,kh _ _ _ Wq,kh _ _ _ Wq,k8]
 go_wp2_with(with_reducible refine h_A ?_);refine px.mono ?_;rintro e w1 ⟨rfl,Ha⟩;have Hc:=bO.trans (Ha.mono hz);have bW:=zi ho Ha;have Nd:=cl.below (Ha.mono hz);have cq:=Hc.size;clear ho bO Ha;go_wp2_with(with_reducible refine h_S ?_);refine zc (kD slB rfl rfl rfl Nd 0 12 D (.inl ⟨rfl,rfl⟩) (.inr ⟨_,_,rfl,rfl⟩) (.inl ⟨rfl,rfl⟩) mq Wq (by have:=Nd.cap;omega) (Q2 _) Wq ?_);intro A4 cV _;simp only[q8,kx,y9,←zB,xT]at cV ⊢;go_wp2_with(with_reducible refine h_A ?_);refine(qE A4 12 D (rest.take 12) w1 (cV.more cq) Wq).mono ?_;rintro e w2 ⟨rb,vb,rfl,da,iu,O9,Hh⟩;have Hn:=Hc.trans (Hh.mono cq);have Bx:=zi bW Hh;have et:w1.heap.size≤w2.heap.size:=Hh.size;have ig:∀g,blk A2=some g→g<w1.heap.size:=fun g hg=>(bW.blk_lt hg).2
 clear bW Hh;have GX:w1.heap.size≤vb∧vb<w2.heap.size:=O9.inF rfl
 have gO:∀g,blk A2=some g→some vb≠some g:=by
  intro g hg e;injection e with e
  have:=ig g hg;omega
 have I3:∀g,some vb=some g→w.heap.size≤g:=fun g hg=>by injection hg with hg;omega
 have AE:=kj O9 2 Wq Wq;rw[sL]at AE;go_wp2_with(with_reducible refine h_A ?_);refine AE.mono ?_;rintro e w3 ⟨A5,c5,rfl,_,Nf,H7⟩;have bz:=Hn.grown H7 Hn.size I3;have Bv:=zk Bx H7 gO;have eK:=yn Nf 2 Wq Wq;rw[gG]at eK;obtain⟨Nn,Sb⟩:∃Nn,Nn=frN rest:=⟨_,rfl⟩
 rw[←Sb]at eK PP;have tK:=Q1 Sb;clear Sb AE sL gG O9 H7 Bx Hn;have hwn:IntKind.i64.wrap ((Nn:Nat):Int)=(Nn:Int):=IntWalk.i64_in _ ⟨by omega,by omega⟩;go_wp2_with(with_reducible refine h_A ?_);refine eK.mono ?_;rintro e w4 ⟨rfl,MK,Bb⟩;have bH:=bz.grown Bb bz.size I3;have ct:=zk Bv Bb gO;clear eK Bb Nf Bv bz;by_cases TH:R<Nn
 ·have ao:(R:Int)<(Nn:Int):=by omega
  have HF:=Q1 (vf Ot.out (qg HW.out Wq (by rw[←tK.out];omega)));go_wp2_with(with_reducible refine h_A ?_);go_ret3;rw[HF.out];simp only[y3,k6];rw[ln.out];exact⟨A2,c2,rfl,ct,bH⟩
 have ao:¬(R:Int)<(Nn:Int):=by omega
 have HF:=Q1 (vf Ot.out (qh HW.out Wq (by rw[←tK.out];omega)));have E9:=kj MK 2 Wq Wq;rw[dU]at E9;go_wp2_with(with_reducible refine h_A ?_);refine E9.mono ?_;rintro e w5 ⟨A6,c6,rfl,_,Rp,bc⟩;have Bq:=bH.grown bc bH.size I3;have bS:=zk ct bc gO;have eS:=yn (Rdr.drew Rp) 2 Wq Wq;rw[m7]at eS;clear E9 dU m7 MK bc ct bH;have oX:RdB w5 w.heap.size A3 R D rest:=Rd.below M6 Bq;obtain⟨xb,xo,rfl,Hg,O0,wu⟩:=RdB.at_k oX (k:=0) Wq;obtain⟨xb1,xo1,e1,_,OC,CP⟩:=RdB.at_k oX (k:=1) Wq;obtain⟨xb5,aE,e5,_,Sy,Rf⟩:=RdB.at_k oX (k:=5) Wq;obtain⟨rfl,rfl⟩:xb=xb1∧xo=xo1:=by simpa using e1
 obtain⟨rfl,rfl⟩:xb=xb5∧xo=aE:=by simpa using e5
 clear e1 e5;rw[←xj O0]at wu;rw[←xj OC]at CP;rw[←xj Sy]at Rf;have hy0:=qv rest 0;have aQ:=qv rest 6;have hy7:=qv rest 7;have hcut:=kU oX 12 Nn D Wq (by have:=oX.cap;omega) (Q2 _) Wq;simp only[q8,←zB,←zA]at hcut;have nP:Hid (frAt rest Nn=⟨zX rest 0 / 8 % 2==1,zX rest 0 / 4 % 2==1,zX rest 0 / 2 % 2==1,zX rest 0 % 2==1,zX rest 1,zX rest 5,256*zX rest 6+zX rest 7,(rest.take Nn).drop 12⟩):=Q1 rfl;have R1:zX rest 0<16:=by have:xv 0=15:=rfl;omega
 have I0:=zce ⟨zX rest 0,R1⟩;simp only at I0;obtain⟨ha8,rU,db,dD⟩:=I0;obtain⟨ch,ii⟩:∃ch,ch=256*zX rest 6+zX rest 7:=⟨_,rfl⟩
 rw[←ii]at eS nP;have Ov:ch<65536:=by omega
 generalize zX rest 0=x0 at*;generalize zX rest 1=x1 at*;generalize zX rest 5=x5 at*;generalize(x0 / 8 % 2==1)=f1 at*;generalize(x0 / 4 % 2==1)=f2 at*;generalize(x0 / 2 % 2==1)=f3 at*;generalize(x0 % 2==1)=f4 at*;clear ii aQ hy7;have MP:IntKind.u16.wrap ((ch:Nat):Int)=(ch:Int):=IntWalk.u16_in _ ⟨by omega,by omega⟩;generalize(rest.take Nn).drop 12=ld at*
 have dh:∀w':World,Below w.heap.size w5 w'→(fun wx:World=>wx.cell? ⟨xb,xo,none⟩=some (.int .u8 (x0:Int))∧wx.cell? ⟨xb,xo+1,none⟩=some (.int .u8 (x1:Int))∧wx.cell? ⟨xb,xo+5,none⟩=some (.int .u8 (x5:Int))∧RdB wx w.heap.size (cutA (some ⟨xb,xo,none⟩) 1 12 D) (Nn-12) (D-12) ld) w':=fun w' h=>
  ⟨(h.cell (p:=⟨xb,xo+0,none⟩) Hg).trans wu,(h.cell (p:=⟨xb,xo+1,none⟩) Hg).trans CP,(h.cell (p:=⟨xb,xo+5,none⟩) Hg).trans Rf,Rd.below hcut h⟩
 have hS:=dh w5.drew (za (KL _ _) 1);simp only at hS dh;have fY:=Bq.size;have SH:0<R:=by omega
 have iL:(1:Int)<(R:Int):=by omega
 have ew:(5:Int)<(R:Int):=by omega
 go_wp2_with(with_reducible refine h_A ?_);refine zt (fun wx:World=>wx.cell? ⟨xb,xo,none⟩=some (.int .u8 (x0:Int))∧wx.cell? ⟨xb,xo+1,none⟩=some (.int .u8 (x1:Int))∧wx.cell? ⟨xb,xo+5,none⟩=some (.int .u8 (x5:Int))∧RdB wx w.heap.size (cutA (some ⟨xb,xo,none⟩) 1 12 D) (Nn-12) (D-12) ld) Wj ?_;refine rg_t 0 hS ?_;simp only[Vy,VB,Act.put,Vx,q5,q6];refine rg_t 1 hS ?_;simp only[g_S];refine rg_t 2 hS ?_;simp only[g_S];refine rg_t 3 hS ?_;simp only[g_S];refine rg_t 4 hS ?_;simp only[g_S];refine rg_t 5 hS ?_;simp only[g_S];refine rg_t 6 hS ?_;simp only[g_S];refine rg_t 7 hS ?_;simp only[g_S];refine rg_t 8 hS ?_;simp only[g_S];refine rg_t 9 hS ?_;simp only[g_S];refine rg_t 10 hS ?_;simp only[g_S];refine rg_t 11 hS ?_;simp only[g_S];refine rg_t 12 hS ?_;simp only[g_S];refine rg_t 13 hS ?_;simp only[g_S];refine rg_t 14 hS ?_;simp only[g_S];refine rg_t 15 hS ?_;simp only[g_S];refine rg_t 16 hS ?_;simp only[g_S];refine rg_t 17 hS ?_;simp only[g_S];refine rg_t 18 hS ?_;simp only[g_S];refine rg_t 19 hS ?_;simp only[g_S];refine rg_t 20 hS ?_;simp only[g_S];refine rg_t 21 hS ?_;simp only[g_S];refine rg_t 22 hS ?_;simp only[g_S];refine rg_t 23 hS ?_;simp only[g_S];refine rg_t 24 hS ?_;simp only[g_S];refine rg_t 25 hS ?_;simp only[g_S];refine rg_t 26 hS ?_;simp only[g_S];refine rg_t 27 hS ?_;simp only[g_S];refine rg_t 30 hS ?_;simp only[g_S];refine rg_t 31 hS ?_;simp only[g_S];have ck:Bd (some (Value.int .i64 12)) 0 12:=.inr ⟨_,_,rfl,rfl⟩;have dN:Bd (some (Value.int .i64 (Nn:Int))) R Nn:=.inr ⟨_,_,rfl,rfl⟩;refine qH 32 slB rfl Wj Wj Wj hS rfl rfl rfl oX.max oX.cap 12 Nn D ck dN (.inl ⟨rfl,rfl⟩) Mz Wq (by have:=oX.cap;omega) (Q2 _) Wq ?_;simp only[g_S];refine ze 33 (v:=?_) rfl Wj Wj Wj hS rfl ?_ ?_;rotate_left
 ·intro wS He;have hv:=jh (w:=wS) He.2.2.2;go_simp;(with_reducible rfl)
 simp only[g_S];refine zj 28 rfl Wj rfl (fun K hK=>?_);go_simp;refine eS.mono ?_;rintro e w6 ⟨rfl,_,bm⟩;have sj:Below w.heap.size w5 w6:=(za (KL w.heap.size w5) 1).grown bm fY I3;have Be:=Bq.trans sj;have bY:=dh w6 sj;have dJ:OwnF w6 w.heap.size A2 N c2 l:=zk (w:=w5.drew) bS bm gO;have ej:=Be.size;clear eS bm bS;refine hK _ _ bY ?_;clear hK K;refine rg_t 29 bY ?_;simp only[g_S];refine rg_t 34 bY ?_;simp only[g_S];have pB:=dh (w6.alloc (.cells #[.bool f1,.bool f2,.bool f3,.bool f4,.int .u8 (x1:Int),.int .u8 (x5:Int),.int .u16 (ch:Int),.string (str ld)] 97)) (sj.alloc ej _);refine zj 35 rfl Wj rfl (fun K hK=>?_);go_simp;refine hK _ _ pB ?_;clear hK K;refine zj 36 rfl Wj rfl (fun K hK=>?_);refine jR (W:=w6) yE slF underlying65 rfl rfl rfl rfl ⟨f1,f2,f3,f4,x1,x5,ch,ld⟩ rfl dJ Wq Wq ej ?_;intro A8 c8 w8 dS H5 _ OX;have Ie:=sj.trans OX;have cI:=dh w8 Ie;have Bh:=Bq.trans Ie;simp only[g_S];refine hK _ _ cI ?_;clear hK K;refine rg_t 37 cI ?_;simp only[g_S];refine zD Wj ?_;have hwu:IntKind.i64.wrap ((u:Int)+(Nn:Int))=((u+Nn:Nat):Int):=by rw[IntWalk.i64_in _ ⟨by omega,by omega⟩];omega
 have hdr:rest.drop Nn=b.drop (u+Nn):=by rw[←tQ.out,k8]
 have IE:fs=((l++ [⟨f1,f2,f3,f4,x1,x5,ch,ld⟩])++(zu (b.drop (u+Nn))).1,(u+Nn)+(zu (b.drop (u+Nn))).2.1,(zu (b.drop (u+Nn))).2.2):=by
  rw[HF.out,←tK.out,nP.out,hdr];simp[Nat.add_assoc]
 have NC:=Q1 IE;clear hdr IE;go_wp2_with(with_reducible refine h_A ?_);have hRU:=HRU.out;exact⟨⟨u+Nn,N+1,c8,A8,l++ [⟨f1,f2,f3,f4,x1,x5,ch,ld⟩],by omega,by first|rfl|go_num,rfl,by simp[ln.out],by omega,NC.out,dS,Bh⟩,by simp[K2];omega⟩
def Y2(l:List Fr):List Fr:=l.filter Fr.ok
def kM(l:List Fr):List UInt8:=(Y2 l).flatMap Fr.bytes
theorem Fr.bytes_length(f:Fr):f.bytes.length=12+f.load.length:=by simp[Fr.bytes,zr];omega
def Ki(b:List UInt8)(k:Nat):Bool:=decide (zX b k≤xv k)
theorem X1(b:List UInt8):zN b=((q9 (min b.length 12)).all (Ki b)&&(decide (b.length<4)||(decide (12≤frN b)&&decide (frN b≤4096)))):=by
 rw[Bool.eq_iff_iff,Bool.and_eq_true,Bool.or_eq_true,Bool.and_eq_true];unfold zN;simp only[x6,z6,decide_eq_true_eq];have h3:zX b 3≤255:=by have:=qv b 3;omega
 constructor
 ·intro h;refine⟨fun k hk=>?_,?_⟩
  ·have:=h k hk;unfold yF at this;unfold Ki;split at this
   ·next e=>subst e;simpa[xv]using h3
   exact this
  by_cases h4:b.length<4
  ·exact .inl h4
  have:=h 3 Wq;simp[yF]at this;exact .inr this
 rintro⟨h,h4⟩ k hk;unfold yF;split
 ·next e=>
  subst e;rcases h4 with h4|h4
  ·omega
  simp[h4.1,h4.2]
 exact h k hk
theorem zdv{b:List UInt8}(hk:k<min b.length 12)(h:xv k<zX b k):zN b=false:=by
 rw[X1]
 have:(q9 (min b.length 12)).all (Ki b)=false:=by
  rw[List.all_eq_false];exact⟨k,z6.2 hk,by simp[Ki];omega⟩
 rw[this];rfl
theorem zcO{b:List UInt8}(hn:b.length=n)(h:∀j,j<min n 12→zX b j≤xv j):zN b=(decide (n<4)||(decide (12≤frN b)&&decide (frN b≤4096))):=by
 subst hn;rw[X1]
 have:(q9 (min b.length 12)).all (Ki b)=true:=by
  rw[x6];exact fun k hk=>by simpa[Ki]using h k (z6.1 hk)
 rw[this];rfl
theorem zC{v:Nat}(h:k=v):((k:Int)==(v:Int))=true:=by rw[beq_iff_eq];omega
theorem zS{v:Nat}(h:k≠v):((k:Int)==(v:Int))=false:=by rw[beq_eq_false_iff_ne];omega
theorem X2(A:Option Addr)(n c:Nat)(b:List UInt8)(B:Nat)(w:World)(hr:RdB w B A n c b)(hB:B≤w.heap.size)(hn:n≤140737488355328):
  Calls prog 42 #[.slice A n c] w fun e w'=>e= .returned (.bool (zN b))∧Below w.heap.size w w':=by
 have hl:=RdB.length hr;go_enter func42,ntmps42;go_wp2_with(with_reducible refine h_A ?_);go_loopw [3] (fun s wr=>∃(k:Nat),k≤min n 12∧s= .int .i64 k∧(∀j,j<k→zX b j≤xv j)∧wr=w) (fun s _=>12-(K2 s).toNat)
 case atStart=>exact⟨0,by omega,rfl,by omega,rfl⟩
 obtain⟨k,hk,rfl,my,rfl⟩:=hrel;by_cases hlt:k<min n 12
 ·have fG:(k:Int)<(n:Int):=by omega
  have oS:(k:Int)<12:=by omega
  obtain⟨bk,off,rfl,_,bK,hc⟩:=RdB.at_k hr (show k<n by omega);rw[←xj bK]at hc
  have HY:=Q1 (show zX b k≤xv k→∀j,j<k+1→zX b j≤xv j from fun h j hj=>by
   rcases Nat.lt_or_ge j k with h1|h1
   ·exact my j h1
   ·obtain rfl:j=k:=by omega
    exact h)
  have cN:=Q1 (show xv k<zX b k→zN b=false from fun h=>zdv Wq h);generalize zX b k=x at*;clear my;have hM:∀v,k=v→xv k=xv v:=fun v h=>by rw[h]
  have DR:k=0∨k=1∨k=2∨k=3∨k=4∨k=5∨k=6∨k=7∨8≤k:=by omega
  rcases DR with dy|dy|dy|dy|dy|dy|dy|dy|dy
  ·have qq8g:=();exact Z1m_
  ·have qq8i:=();exact Z1m_
  ·have qq8j:=();exact Z1m_
  ·have qq8k:=();exact Z1m_
  ·have qq8f:=();exact Z1m_
  ·have qq8h:=();exact Z1m_
  ·have qq8l:=();exact Z1m_
  ·have qq8m:=();exact Z1m_
  exact Z1m_
 have pz:k=min n 12:=by omega
 have BM:=zcO hl (fun j hj=>my j Wq);have FM:=Q1 BM;clear BM my;by_cases h4:n<4
 ·have fG:¬(k:Int)<(n:Int):=by omega
  have hd4:(n:Int)<4:=by omega
  have By:zN b=true:=by rw[FM.out];simp[h4]
  clear pz h4;go_wp2_with(with_reducible refine h_A ?_);go_ret;exact⟨rfl,KL _ _⟩
 have hd4:¬(n:Int)<4:=by omega
 obtain⟨bk,off,rfl,_,OT,dN⟩:=RdB.at_k hr (show 2<n by omega);obtain⟨bk',off',e3,_,RO,i6⟩:=RdB.at_k hr (show 3<n by omega);obtain⟨rfl,rfl⟩:bk=bk'∧off=off':=by simpa using e3
 clear e3;rw[←xj OT]at dN;rw[←xj RO]at i6;have n7:=qv b 2;have GW:=qv b 3;have HN:=Q1 (Yr b);have eS:(2:Int)<(n:Int):=by omega
 have oV:(3:Int)<(n:Int):=by omega
 generalize zX b 2=x2 at*;generalize zX b 3=x3 at*;obtain⟨N,hN⟩:∃N,N=frN b:=⟨_,rfl⟩
 have fw:IntKind.i64.wrap (256*((x2:Nat):Int))=((256*x2:Nat):Int):=by rw[IntWalk.i64_in _ ⟨by omega,by omega⟩];omega
 have og:IntKind.i64.wrap ((x2:Nat):Int)=(x2:Int):=IntWalk.i64_in _ ⟨by omega,by omega⟩;have aM:IntKind.i64.wrap ((x3:Nat):Int)=(x3:Int):=IntWalk.i64_in _ ⟨by omega,by omega⟩;have om:IntKind.i64.wrap (((256*x2:Nat):Int)+(x3:Int))=((N:Nat):Int):=by rw[IntWalk.i64_in _ ⟨by omega,by omega⟩,hN,HN.out];omega
 have By:zN b=(decide (12≤N)&&decide (N≤4096)):=by rw[FM.out,←hN];simp[h4]
 have sm:=Q1 By;clear By hN HN FM h4;generalize(256*x2:Nat)=m at*;by_cases gf:k<n
 ·exact Z1v_
 have qq9d:=();exact Z1v_
end Go.PH
