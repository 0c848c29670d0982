/- Parts. -/
import Derived.Test.YtfbkameikhgciaaGreatDoorProg
import Derived.Test.YtfbkameikhgciaaGreatDoorRows
import Derived.Test.YtfbkameikhgciaaGreatDoorMy02
set_option linter.all false
set_option maxRecDepth 20000
set_option maxHeartbeats 8000000
open Go.RowKit.Below renaming refl → K2
open List renaming range → Q2, getElem?_eq_getElem → KL, length_append → KS, length_take → K0, take_of_length_le → Vy, length_cons → Vx, take_append_of_le_length → q1, getElem?_map → q6, length_drop → q9, map_cons → kv, foldl_cons → ky, all_eq_true → k2, mem_range → k3, eq_nil_of_length_eq_zero → k4, length_map → k5, size_toArray → k6, map_toArray → k7, map_nil → k8, cons_append → vz, nil_append → v1, mem_cons → j1, take_append → j2, take_take → j8, getD → z1, getElem?_drop → z8, getElem?_take → yB, drop_take → yA, replicate → y1, append_assoc → y2, getElem?_eq_some_iff → y4, drop_zero → y5, drop_append → y6, drop_of_length_le → y7, drop_append_of_le_length → y8, contains_iff_mem → xT, append_nil → xB, mem_append → xA, range_succ → xy
open Nat renaming le_refl → Q1, mul_le_mul_right → K1, add_mul → VB, succ_mul → q2, zero_add → q3, le_trans → q4, one_mul → q5, min_eq_left → q8, add_assoc → kI, mul_one → kx, add_sub_cancel_left → k0, mul_comm → k1, lt_of_lt_of_le → k9, pow_succ → vv, lt_irrefl → z6, zero_mul → y3, lt_or_ge → y9, le_of_lt_succ → x0
open UInt8 renaming ofNat → q0
open Go.World renaming ownsRow → q7, cells?_some → zB, block_lt_of_cell? → zA, cell?_alloc_new → z2, cell?_of_block → z7
section
namespace Go.Proofs
open Go.Shelf
def Tryz.lays146_ren:Go.Shelf.Ren:=⟨fun|146=>119|221=>146|268=>168|138=>169|143=>170|195=>179|197=>180|218=>181|219=>182|260=>185|217=>186|225=>187|224=>188|267=>189|266=>190|314=>191|n=>n,fun|9=>9|31=>22|3=>3|4=>4|0=>0|105=>259|21=>21|5=>5|46=>123|119=>266|139=>269|138=>268|146=>270|51=>71|n=>n,fun|1=>0|3=>1|4=>2|n=>n⟩
theorem Tryz.lays146:Go.Proofs.Lays.n146 Tryz.prog Tryz.lays146_ren:={
 mixed:=by kernel_rfl
 f138:=Tryz.func169.trans (congrArg some (by kernel_rfl))
 f143:=Tryz.func170.trans (congrArg some (by kernel_rfl))
 f146:=Tryz.func119.trans (congrArg some (by kernel_rfl))
 f195:=Tryz.func179.trans (congrArg some (by kernel_rfl))
 f197:=Tryz.func180.trans (congrArg some (by kernel_rfl))
 f217:=Tryz.func186.trans (congrArg some (by kernel_rfl))
 f218:=Tryz.func181.trans (congrArg some (by kernel_rfl))
 f219:=Tryz.func182.trans (congrArg some (by kernel_rfl))
 f221:=Tryz.func146.trans (congrArg some (by kernel_rfl))
 f224:=Tryz.func188.trans (congrArg some (by kernel_rfl))
 f225:=Tryz.func187.trans (congrArg some (by kernel_rfl))
 f260:=Tryz.func185.trans (congrArg some (by kernel_rfl))
 f266:=Tryz.func190.trans (congrArg some (by kernel_rfl))
 f267:=Tryz.func189.trans (congrArg some (by kernel_rfl))
 f268:=Tryz.func168.trans (congrArg some (by kernel_rfl))
 f314:=Tryz.func191.trans (congrArg some (by kernel_rfl))
 t0:=Tryz.underlying0
 a0:=Tryz.isAgg0
 z0:=Tryz.sizeOf0
 v0:=Tryz.zeroValue0
 t3:=Tryz.underlying3
 a3:=Tryz.isAgg3
 z3:=Tryz.sizeOf3
 v3:=Tryz.zeroValue3
 t4:=Tryz.underlying4
 a4:=Tryz.isAgg4
 z4:=Tryz.sizeOf4
 v4:=Tryz.zeroValue4
 t5:=Tryz.underlying5
 a5:=Tryz.isAgg5
 z5:=Tryz.sizeOf5
 v5:=Tryz.zeroValue5
 t9:=Tryz.underlying9
 a9:=Tryz.isAgg9
 z9:=Tryz.sizeOf9
 v9:=Tryz.zeroValue9
 t21:=Tryz.underlying21
 a21:=Tryz.isAgg21
 z21:=Tryz.sizeOf21
 v21:=Tryz.zeroValue21
 t31:=Tryz.underlying22
 a31:=Tryz.isAgg22
 z31:=Tryz.sizeOf22
 v31:=Tryz.zeroValue22
 t46:=Tryz.underlying123
 a46:=Tryz.isAgg123
 z46:=Tryz.sizeOf123
 v46:=Tryz.zeroValue123
 t51:=Tryz.underlying71
 a51:=Tryz.isAgg71
 z51:=Tryz.sizeOf71
 v51:=Tryz.zeroValue71
 t105:=Tryz.underlying259
 a105:=Tryz.isAgg259
 z105:=Tryz.sizeOf259
 v105:=Tryz.zeroValue259
 t119:=Tryz.underlying266
 a119:=Tryz.isAgg266
 z119:=Tryz.sizeOf266
 t138:=Tryz.underlying268
 a138:=Tryz.isAgg268
 z138:=Tryz.sizeOf268
 v138:=Tryz.zeroValue268
 t139:=Tryz.underlying269
 a139:=Tryz.isAgg269
 z139:=Tryz.sizeOf269
 v139:=Tryz.zeroValue269
 t146:=Tryz.underlying270
 a146:=Tryz.isAgg270
 z146:=Tryz.sizeOf270
 v146:=Tryz.zeroValue270
 g1:=by kernel_rfl
 g3:=by kernel_rfl
 g4:=by kernel_rfl}
open Go.RowKit Go.Lib in
theorem Tryz.strings_Split(s sep:ByteArray)(m:Int)(w:World)(hs:s.size<4294967281)(hm:w.cell? ⟨0,0,none⟩=some (.int .i64 m))(h1:1≤sep.size):
  Calls Tryz.prog 119 #[.string s,.string sep] w fun e w'=>
   e= .returned (.slice (some ⟨w.heap.size,0,none⟩) (Lib.countB s sep+1) (Lib.countB s sep+1))∧w'=w.alloc (.cells ((Lib.splitB sep 0 (Lib.countB s sep) s).map Value.string).toArray 9):=Any.strings_Split Tryz.lays146 (by kernel_rfl) s sep m w hs hm h1
def Tryz.laysM146_ren:Go.Shelf.Ren:=⟨fun|146=>119|221=>146|268=>168|138=>169|143=>170|195=>179|197=>180|218=>181|219=>182|260=>185|217=>186|225=>187|224=>188|267=>189|266=>190|314=>191|n=>n,fun|9=>9|31=>22|3=>3|4=>4|0=>0|105=>259|21=>21|5=>5|46=>123|119=>266|139=>269|138=>268|146=>270|51=>71|n=>n,fun|1=>0|3=>1|4=>2|n=>n⟩
theorem Tryz.laysM146:Go.Proofs.LaysM.n146 Tryz.prog Tryz.laysM146_ren:={
 mixed:=by kernel_rfl
 f138:=Tryz.func169.trans (congrArg some (by kernel_rfl))
 f143:=Tryz.func170.trans (congrArg some (by kernel_rfl))
 f146:=Tryz.func119.trans (congrArg some (by kernel_rfl))
 f195:=Tryz.func179.trans (congrArg some (by kernel_rfl))
 f197:=Tryz.func180.trans (congrArg some (by kernel_rfl))
 f217:=Tryz.func186.trans (congrArg some (by kernel_rfl))
 f218:=Tryz.func181.trans (congrArg some (by kernel_rfl))
 f219:=Tryz.func182.trans (congrArg some (by kernel_rfl))
 f221:=Tryz.func146.trans (congrArg some (by kernel_rfl))
 f224:=Tryz.func188.trans (congrArg some (by kernel_rfl))
 f225:=Tryz.func187.trans (congrArg some (by kernel_rfl))
 f260:=Tryz.func185.trans (congrArg some (by kernel_rfl))
 f266:=Tryz.func190.trans (congrArg some (by kernel_rfl))
 f267:=Tryz.func189.trans (congrArg some (by kernel_rfl))
 f268:=Tryz.func168.trans (congrArg some (by kernel_rfl))
 f314:=Tryz.func191.trans (congrArg some (by kernel_rfl))
 t0:=Tryz.underlying0
 a0:=Tryz.isAgg0
 z0:=Tryz.sizeOf0
 v0:=Tryz.zeroValue0
 t3:=Tryz.underlying3
 a3:=Tryz.isAgg3
 z3:=Tryz.sizeOf3
 v3:=Tryz.zeroValue3
 t4:=Tryz.underlying4
 a4:=Tryz.isAgg4
 z4:=Tryz.sizeOf4
 v4:=Tryz.zeroValue4
 t5:=Tryz.underlying5
 a5:=Tryz.isAgg5
 z5:=Tryz.sizeOf5
 v5:=Tryz.zeroValue5
 t9:=Tryz.underlying9
 a9:=Tryz.isAgg9
 z9:=Tryz.sizeOf9
 v9:=Tryz.zeroValue9
 t21:=Tryz.underlying21
 a21:=Tryz.isAgg21
 z21:=Tryz.sizeOf21
 v21:=Tryz.zeroValue21
 t31:=Tryz.underlying22
 a31:=Tryz.isAgg22
 z31:=Tryz.sizeOf22
 v31:=Tryz.zeroValue22
 t46:=Tryz.underlying123
 a46:=Tryz.isAgg123
 z46:=Tryz.sizeOf123
 v46:=Tryz.zeroValue123
 t51:=Tryz.underlying71
 a51:=Tryz.isAgg71
 z51:=Tryz.sizeOf71
 v51:=Tryz.zeroValue71
 t105:=Tryz.underlying259
 a105:=Tryz.isAgg259
 z105:=Tryz.sizeOf259
 v105:=Tryz.zeroValue259
 t119:=Tryz.underlying266
 a119:=Tryz.isAgg266
 z119:=Tryz.sizeOf266
 t138:=Tryz.underlying268
 a138:=Tryz.isAgg268
 z138:=Tryz.sizeOf268
 v138:=Tryz.zeroValue268
 t139:=Tryz.underlying269
 a139:=Tryz.isAgg269
 z139:=Tryz.sizeOf269
 v139:=Tryz.zeroValue269
 t146:=Tryz.underlying270
 a146:=Tryz.isAgg270
 z146:=Tryz.sizeOf270
 v146:=Tryz.zeroValue270
 g1:=by kernel_rfl
 g3:=by kernel_rfl
 g4:=by kernel_rfl
 i0:=by kernel_rfl
 i3:=by kernel_rfl
 i4:=by kernel_rfl
 i5:=by kernel_rfl
 i9:=by kernel_rfl
 i21:=by kernel_rfl
 i31:=by kernel_rfl
 i46:=by kernel_rfl
 i51:=by kernel_rfl
 i105:=by kernel_rfl
 i138:=by kernel_rfl
 i139:=by kernel_rfl
 i146:=by kernel_rfl
 m1:=by kernel_rfl
 s1_3:=fun w h=>Go.Proofs.cell_of_shapedOpen_int (zero:=#[.int .i64 0]) (t:=3) h (of_decide_eq_true (by kernel_rfl)) (by kernel_rfl) rfl (by kernel_rfl) (by kernel_rfl) Tryz.underlying3
 m3:=by kernel_rfl
 m4:=by kernel_rfl}
open Go.RowKit Go.Lib in
def Tryz.lays197_ren:Go.Shelf.Ren:=⟨fun|197=>180|260=>185|n=>n,fun|9=>9|21=>21|3=>3|4=>4|5=>5|105=>259|119=>266|0=>0|46=>123|139=>269|138=>268|n=>n,fun|3=>1|4=>2|n=>n⟩
theorem Tryz.lays197:Go.Proofs.Lays.n197 Tryz.prog Tryz.lays197_ren:={
 mixed:=by kernel_rfl
 f197:=Tryz.func180.trans (congrArg some (by kernel_rfl))
 f260:=Tryz.func185.trans (congrArg some (by kernel_rfl))
 t0:=Tryz.underlying0
 a0:=Tryz.isAgg0
 z0:=Tryz.sizeOf0
 v0:=Tryz.zeroValue0
 t3:=Tryz.underlying3
 a3:=Tryz.isAgg3
 z3:=Tryz.sizeOf3
 v3:=Tryz.zeroValue3
 t4:=Tryz.underlying4
 a4:=Tryz.isAgg4
 z4:=Tryz.sizeOf4
 v4:=Tryz.zeroValue4
 t5:=Tryz.underlying5
 a5:=Tryz.isAgg5
 z5:=Tryz.sizeOf5
 v5:=Tryz.zeroValue5
 t9:=Tryz.underlying9
 a9:=Tryz.isAgg9
 z9:=Tryz.sizeOf9
 v9:=Tryz.zeroValue9
 t21:=Tryz.underlying21
 a21:=Tryz.isAgg21
 z21:=Tryz.sizeOf21
 v21:=Tryz.zeroValue21
 t46:=Tryz.underlying123
 a46:=Tryz.isAgg123
 z46:=Tryz.sizeOf123
 v46:=Tryz.zeroValue123
 t105:=Tryz.underlying259
 a105:=Tryz.isAgg259
 z105:=Tryz.sizeOf259
 v105:=Tryz.zeroValue259
 t119:=Tryz.underlying266
 a119:=Tryz.isAgg266
 z119:=Tryz.sizeOf266
 t138:=Tryz.underlying268
 a138:=Tryz.isAgg268
 z138:=Tryz.sizeOf268
 v138:=Tryz.zeroValue268
 t139:=Tryz.underlying269
 a139:=Tryz.isAgg269
 z139:=Tryz.sizeOf269
 v139:=Tryz.zeroValue269
 g3:=by kernel_rfl
 g4:=by kernel_rfl}
open Go.RowKit Go.Lib in
theorem Tryz.utf8_DecodeRuneInString(s:ByteArray)(w:World)(hT:Lib.Utf8Tabs 1 2 w):
  Calls Tryz.prog 180 #[.string s] w fun e w'=>e= .returned (.tuple #[.int .i32 (Lib.decodeGo s).1,.int .i64 (Lib.decodeGo s).2])∧Below w.heap.size w w':=Any.utf8_DecodeRuneInString Tryz.lays197 s w hT
end Go.Proofs
end
section
namespace Go.PH
open Go.RowKit
def str(l:List UInt8):ByteArray:=⟨l.toArray⟩
theorem zn(l:List UInt8):(str l).toList=l:=by rw[ByteArray.toList_eq];rfl
theorem zh(l:List UInt8):(str l).size=l.length:=rfl
theorem zc3(s:ByteArray):str s.data.toList=s:=rfl
def u8v(x:UInt8):Value:=.int .u8 (x.toNat:Int)
theorem zb9(x:UInt8):(u8v x).oneCell'=true:=rfl
theorem kS(x:UInt8):u8v x= .int .u8 (x.toNat:Int):=rfl
structure Rd(w:World)(B size:Nat)(A:Option Addr)(n c:Nat)(xs:List Value):Prop where
 len:xs.length=n*size
 cap:n≤c
 max:c≤maxLen
 at_:0<n→∃b off,A=some ⟨b,off,none⟩∧b<B∧∀j u,xs[j]?=some u→w.cell? ⟨b,off+j,none⟩=some u
variable {w w' : World} {B B' size n c : Nat} {A : Option Addr} {xs : List Value}
theorem Rd.keep(h:Rd w B size A n c xs)(hk:∀p:Addr,p.block<B→w'.cell? p=w.cell? p):Rd w' B size A n c xs:=
 ⟨h.len,h.cap,h.max,fun hn=>by
  obtain⟨b,off,e,hb,hc⟩:=h.at_ hn
  exact⟨b,off,e,hb,fun j u hu=>(hk _ hb).trans (hc j u hu)⟩⟩
theorem Rd.more(h:Rd w B size A n c xs)(hB:B≤B'):Rd w B' size A n c xs:=
 ⟨h.len,h.cap,h.max,fun hn=>by
  obtain⟨b,off,e,hb,hc⟩:=h.at_ hn
  exact⟨b,off,e,by omega,hc⟩⟩
theorem Rd.below(h:Rd w B size A n c xs)(hb:Below B w w'):Rd w' B size A n c xs:=h.keep fun _ hp=>hb.cell hp
theorem Rd.below'(h:Rd w B size A n c xs)(hb:Below B' w w')(hB:B≤B'):Rd w' B size A n c xs:=h.below (hb.mono hB)
theorem Rd.nil(w:World)(B size c:Nat)(hc:c≤maxLen)(A:Option Addr):Rd w B size A 0 c []:=⟨by simp,Nat.zero_le _,hc,fun h=>absurd h (z6 0)⟩
theorem Rd.of_own{base e:Nat}(h:w.ownsRow base e size (.slice A n c) n xs):Rd w w.heap.size size A n c xs:=by
 rcases h.2 with⟨hv,rfl⟩|⟨g,cap,cur,hv,_,hh,iC,hm,hs,hx⟩
 ·injection hv with h1 h2 h3
  subst h1 h3;exact⟨h.1,Q1 _,by simp[maxLen],fun hn=>absurd hn (z6 0)⟩
 injection hv with h1 h2 h3
 subst h1 h3;have hlt:=(Array.getElem?_eq_some_iff.1 hh).1;refine⟨h.1,iC,hm,fun _=>⟨g,0,rfl,hlt,fun j u hu=>?_⟩⟩;rw[q3];have h':=h.cells (g:=g) rfl j u hu;have nv:(⟨g,0,none⟩:Addr).add j=⟨g,j,none⟩:=by unfold Addr.add;split<;>simp_all
 rwa[nv]at h'
theorem Rd.at_k(h:Rd w B 1 A n c xs){k:Nat}(hk:k<n):∃b off u,A=some ⟨b,off,none⟩∧b<B∧xs[k]?=some u∧w.cell? ⟨b,off+k,none⟩=some u:=by
 obtain⟨b,off,e,hb,hc⟩:=h.at_ Wq;have hl:k<xs.length:=by have:=h.len;omega
 exact⟨b,off,xs[k],e,hb,KL hl,hc k _ (KL hl)⟩
abbrev RdB(w:World)(B:Nat)(A:Option Addr)(n c:Nat)(l:List UInt8):Prop:=Rd w B 1 A n c (l.map u8v)
theorem RdB.length{l:List UInt8}(h:RdB w B A n c l):l.length=n:=by have:=h.len;simpa using this
theorem RdB.at_k{l:List UInt8}(h:RdB w B A n c l){k:Nat}(hk:k<n):∃b off,A=some ⟨b,off,none⟩∧b<B∧∃hl:k<l.length,w.cell? ⟨b,off+k,none⟩=some (.int .u8 (l[k].toNat:Int)):=by
 obtain⟨b,off,u,e,hb,hx,hc⟩:=Rd.at_k h hk;have hl:k<l.length:=by have:=h.length;omega
 refine⟨b,off,e,hb,hl,?_⟩;rw[q6,KL hl]at hx;simp at hx;rw[hc,←hx];rfl
def Hold(p:Prop):Prop:=p
theorem zc{p:Prop}(h:p):Hold p:=h
section
variable {P : Program} {ops : Array Oper} {Q : Exit → Act → World → Prop} {rest : List Oper} {a : Act} {w : World} {dst : Option Tmp} {ty : TypeId} {pos : String} {after : Array Edge} {guard : Option (Nat × Bool)}
theorem zU{xs:Array Operand}{ts:Array TypeId}(h:Hold (wpList P ops Q (⟨dst,.call ⟨.builtin .append,xs,ts⟩,ty,pos,after,guard⟩::rest) a w)):
  wpList P ops Q (⟨dst,.call ⟨.builtin .append,xs,ts⟩,ty,pos,after,guard⟩::rest) a w:=h
theorem yk{xs:Array Operand}{ts:Array TypeId}(h:Hold (wpList P ops Q (⟨dst,.call ⟨.builtin .copy,xs,ts⟩,ty,pos,after,guard⟩::rest) a w)):
  wpList P ops Q (⟨dst,.call ⟨.builtin .copy,xs,ts⟩,ty,pos,after,guard⟩::rest) a w:=h
theorem yl{t:TypeId}{l c:Operand}(h:Hold (wpList P ops Q (⟨dst,.makeSlice t l c,ty,pos,after,guard⟩::rest) a w)):
  wpList P ops Q (⟨dst,.makeSlice t l c,ty,pos,after,guard⟩::rest) a w:=h
theorem ym{s t:TypeId}{x:Operand}(h:Hold (wpList P ops Q (⟨dst,.convert s t x,ty,pos,after,guard⟩::rest) a w)):
  wpList P ops Q (⟨dst,.convert s t x,ty,pos,after,guard⟩::rest) a w:=h
theorem yd{t:TypeId}{x:Operand}{lo hi mx:Option Operand}(h:Hold (wpList P ops Q (⟨dst,.slice t x lo hi mx,ty,pos,after,guard⟩::rest) a w)):
  wpList P ops Q (⟨dst,.slice t x lo hi mx,ty,pos,after,guard⟩::rest) a w:=h
end
structure SlT(P:Program)(t e size bytes:Nat)(z:Value):Prop where
 u:P.underlying t=some (.slice e)
 i:∃i,P.info? e=some i∧i.zero=some z∧i.size=size∧i.bytes=bytes
 zs:z.cells.size=size
 pos:0<size
theorem SlT.mk'{P:Program}{t e size bytes:Nat}{z:Value}(u:P.underlying t=some (.slice e))(h:(P.info? e).map (fun i=>(i.zero,i.size,i.bytes))=some (some z,size,bytes))
  (zs:z.cells.size=size) (pos:0<size):SlT P t e size bytes z:=⟨u,info_parts h,zs,pos⟩
abbrev Own(w:World)(base e size:Nat)(A:Option Addr)(n c:Nat)(xs:List Value):Prop:=w.ownsRow base e size (.slice A n c) n xs
abbrev blk(A:Option Addr):Option Nat:=A.map (·.block)
theorem xh(A:Option Addr)(n c:Nat):(Value.slice A n c).ownBlock=blk A:=by cases A<;>rfl
section
variable {P : Program} {w w' : World} {base e size bytes t n c m B : Nat} {A A' : Option Addr} {xs news : List Value} {z : Value}
theorem jQ{v:Value}(h:w.ownsRow base e size v n xs):∃A c,v= .slice A n c:=by
 rcases h.2 with⟨rfl,rfl⟩|⟨g,cap,cur,rfl,_⟩
 ·exact⟨none,0,rfl⟩
 exact⟨_,_,rfl⟩
theorem Own.rd(h:Own w base e size A n c xs):Rd w w.heap.size size A n c xs:=Rd.of_own h
theorem Own.none_(w:World)(base e size:Nat):Own w base e size none 0 0 []:=World.ownsRow_nil w base e size
theorem Own.blk_lt(h:Own w base e size A n c xs){g:Nat}(hg:blk A=some g):base≤g∧g<w.heap.size:=q7.lt h g (by rw[xh];exact hg)
theorem Rd.grown(h:Rd w B size A n c xs){row:Option Nat}(hg:w.grownBy w' row)(hB:B≤w.heap.size)(hr:∀g,row=some g→B≤g):Rd w' B size A n c xs:=
 h.keep fun p hp=>z7 (hg.block p.block Wq (fun e=>by have:=hr _ e.symm;omega))
theorem Rd.grown_ne(h:Rd w B size A n c xs){row:Option Nat}(hg:w.grownBy w' row)(hB:B≤w.heap.size)(hne:blk A=none∨blk A≠row):Rd w' B size A n c xs:=
 ⟨h.len,h.cap,h.max,fun hn=>by
  obtain⟨b,off,e,hb,hc⟩:=h.at_ hn;refine⟨b,off,e,hb,fun j u hu=>(z7 (hg.block b Wq ?_)).trans (hc j u hu)⟩;subst e
  simpa[blk]using hne⟩
theorem KA(hT:SlT P t e size bytes z)(ty:TypeId)(Hl:Own w base e size A n c xs){B m c':Nat}{A':Option Addr}{news:List Value}(hr:Rd w B size A' m c' news)(h1:∀u∈news,u.oneCell'=true)
  (Bm:(n+m)*bytes≤140737488355328) (Dd:n+m≤maxLen) (Hf:base≤w.heap.size):
  ∃A2 c2 w',(Builtin.append_ #[t,t] ty #[.slice A n c,.slice A' m c']).run P w= .ok (.slice A2 (n+m) c2) w'∧Own w' base e size A2 (n+m) c2 (xs++news)∧w.grownBy w' (blk A)∧
   (blk A2=blk A∨blk A2=some w.heap.size):=by
 have qq7w:=();exact Z1d_
theorem yc{ops:Array Oper}{rest:List Oper}{o:Oper}{a:Act}{Q:Exit→Act→World→Prop}{s x:Operand}(hT:SlT P t e size bytes z)(hw:Region.wanted o (yielded ops a.tmps)=true)
  (ho:o.op= .call {callee:=.builtin .append,args:=#[s,x],argTypes:=#[t,t]}) (hs:a.eval s= .slice A n c) {c':Nat} (hx:a.eval x= .slice A' m c')
  (Hl:Own w base e size A n c xs) (hr:Rd w B size A' m c' news) (h1:∀u∈news,u.oneCell'=true)
  (Bm:(n+m)*bytes≤140737488355328) (Dd:n+m≤maxLen) (Hf:base≤w.heap.size)
  (h:∀A2 c2 w',Own w' base e size A2 (n+m) c2 (xs++news)→w.grownBy w' (blk A)→(blk A2=blk A∨blk A2=some w.heap.size)→wpList P ops Q rest (a.put o.dst (.slice A2 (n+m) c2)) w'):
  wpList P ops Q (o::rest) a w:=by
 exact Z36_
theorem Qd(hT:SlT P t e size bytes z)(ty:TypeId)(Hl:Own w base e size A n c xs){B m c':Nat}{A':Option Addr}{news:List Value}(hr:Rd w B size A' m c' news)(h1:∀u∈news,u.oneCell'=true)
  (fP:n+m≤c) (Hf:base≤w.heap.size):
  ∃w',(Builtin.append_ #[t,t] ty #[.slice A n c,.slice A' m c']).run P w= .ok (.slice A (n+m) c) w'∧Own w' base e size A (n+m) c (xs++news)∧w.grownBy w' (blk A):=by
 exact Z1d_
theorem Z7{ops:Array Oper}{rest:List Oper}{o:Oper}{a:Act}{Q:Exit→Act→World→Prop}{s x:Operand}(hT:SlT P t e size bytes z)(hw:Region.wanted o (yielded ops a.tmps)=true)
  (ho:o.op= .call {callee:=.builtin .append,args:=#[s,x],argTypes:=#[t,t]}) (hs:a.eval s= .slice A n c) {c':Nat} (hx:a.eval x= .slice A' m c')
  (Hl:Own w base e size A n c xs) (hr:Rd w B size A' m c' news) (h1:∀u∈news,u.oneCell'=true) (fP:n+m≤c) (Hf:base≤w.heap.size)
  (h:∀w',Own w' base e size A (n+m) c (xs++news)→w.grownBy w' (blk A)→wpList P ops Q rest (a.put o.dst (.slice A (n+m) c)) w'):
  wpList P ops Q (o::rest) a w:=by
 have qqdp:=();exact Z36_
theorem qj{ops:Array Oper}{rest:List Oper}{o:Oper}{a:Act}{Q:Exit→Act→World→Prop}{s x:Operand}{u:TypeId}(hT:SlT P t e 1 1 (.int .u8 0))(hu:P.underlying u=some .string)(hw:Region.wanted o (yielded ops a.tmps)=true)
  (ho:o.op= .call {callee:=.builtin .append,args:=#[s,x],argTypes:=#[t,u]}) (hs:a.eval s= .slice A n c) {l:List UInt8} (hx:a.eval x= .string (str l))
  (Hl:Own w base e 1 A n c xs) (Bm:n+l.length≤140737488355328) (Hf:base≤w.heap.size)
  (h:∀A2 c2 w',Own w' base e 1 A2 (n+l.length) c2 (xs++l.map u8v)→w.grownBy w' (blk A)→wpList P ops Q rest (a.put o.dst (.slice A2 (n+l.length) c2)) w'):
  wpList P ops Q (o::rest) a w:=by
 exact Z2f_
theorem KC{ops:Array Oper}{rest:List Oper}{o:Oper}{a:Act}{Q:Exit→Act→World→Prop}{l c:Operand}(hT:SlT P t e size bytes z)(hw:Region.wanted o (yielded ops a.tmps)=true)
  (ho:o.op= .makeSlice t l c) {kl kc:IntKind} {L C:Int} (n cap:Nat) (hl:a.eval l= .int kl L) (hc:a.eval c= .int kc C) (hL:L=(n:Int)) (hC:C=(cap:Int)) (iC:n≤cap)
  (Bm:bytes*cap≤281474976710656) (Dd:cap≤maxLen) (base:Nat) (Hf:base≤w.heap.size)
  (h:∀w',Own w' base e size (some ⟨w.heap.size,0,none⟩) n cap ((madeCells z.cells (cap*size)).toList.take (n*size))→w.grownBy w' none→wpList P ops Q rest (a.put o.dst (.slice (some ⟨w.heap.size,0,none⟩) n cap)) w'):
  wpList P ops Q (o::rest) a w:=by
 refine BigFrame.wpList_want hw fun K hK=>?_
 obtain⟨i,hi,hz,hs,dX⟩:=hT.i;have hdu:cap≤9223372036854775807:=by simpa[maxLen]using Dd
 have mI:(i.bytes:Int)*(cap:Int)≤281474976710656:=by
  have h:((i.bytes*cap:Nat):Int)≤281474976710656:=by rw[dX];omega
  rwa[Int.natCast_mul]at h
 have hr:=run_make (P:=P) w t e i z hT.u hi hz kl kc (n:Int) (cap:Int) Wq Wq mI Wq;simp only[Int.toNat_natCast,hs]at hr;subst hL hC;unfold Oper.wp execOp;simp only[ho,hl,hc,Sem.run_bind,Sem.run_pure,Result.andThen_ok,hr];refine hK _ _ (h _ ⟨?_,.inr ⟨w.heap.size,cap,_,rfl,Hf,heap_alloc_new w _,iC,Dd,size_madeCells _ _,rfl⟩⟩ (World.grownBy_alloc w _ none));rw[K0,Array.length_toList,size_madeCells];exact q8 (K1 _ iC)
def Bd(o:Option Value)(dflt k:Nat):Prop:=(o=none∧k=dflt)∨∃kd X,o=some (.int kd X)∧X=(k:Int)
def cutA(A:Option Addr)(size l m:Nat):Option Addr:=if m=l then A else A.map (·.add (l*size))
theorem zca(A:Option Addr)(size l m:Nat):cutA A size l m=A∨cutA A size l m=A.map (·.add (l*size)):=by unfold cutA;split<;>simp
theorem jx(A:Option Addr)(size l m:Nat):blk (cutA A size l m)=blk A:=by
 unfold cutA;split
 ·rfl
 cases A with
 | none=>rfl
 | some a=>simp only[Option.map_some,blk];congr 1;unfold Addr.add;split<;>rfl
theorem kT(hT:SlT P t e size bytes z)(w:World){A:Option Addr}{n c:Nat}(gS:c≤maxLen)(iC:n≤c){lo hi mx:Option Value}(l h m:Nat)(fC:Bd lo 0 l)(mW:Bd hi n h)(nl:Bd mx c m)(t9:mx.isSome=true→hi.isSome=true)(h1:l≤h)(h2:h≤m)(h3:m≤c)(h4:h≤n):
  (Instr.sliceAt t (.slice A n c) lo hi mx).run P w= .ok (.slice (cutA A size l m) (h-l) (m-l)) w:=by
 unfold cutA;obtain⟨i,hi',hz,hs,dX⟩:=hT.i;have BF:P.elem t=e:=by simp[Program.elem,hT.u]
 have Ti:P.underlying t=some (.slice (P.elem t)):=by rw[BF];exact hT.u
 have hb:(Instr.sliceBounds true n c lo hi mx).run P w= .ok (l,h,m) w:=by
  have pd:∀code,mx=none∧m=c∨∃v,mx=some v∧(Instr.sliceBound v c code).run P w= .ok m w:=by
   intro code;rcases nl with⟨h,e⟩|⟨kd,X,rfl,rfl⟩
   ·exact .inl ⟨h,e⟩
   exact .inr ⟨_,rfl,by rw[run_sliceBound w kd _ c code Wq Wq];simp⟩
  have UR:∀code y,h≤y→hi=none∧h=n∨∃v,hi=some v∧(Instr.sliceBound v y code).run P w= .ok h w:=by
   intro code y hy;rcases mW with⟨h,e⟩|⟨kd,X,rfl,rfl⟩
   ·exact .inl ⟨h,e⟩
   exact Z6d_
  have lf:∀code y,l≤y→lo=none∧l=0∨∃v,lo=some v∧(Instr.sliceBound v y code).run P w= .ok l w:=by
   intro code y hy;rcases fC with⟨h,e⟩|⟨kd,X,rfl,rfl⟩
   ·exact .inl ⟨h,e⟩
   exact Z6d_
  unfold Instr.sliceBounds;rcases pd .slice3Acap with⟨rfl,rfl⟩|⟨vm,rfl,em⟩
  ·rcases UR .sliceAcap m h2 with⟨rfl,rfl⟩|⟨vh,rfl,eh⟩
   ·rcases lf .sliceB h h1 with⟨rfl,rfl⟩|⟨vl,rfl,el⟩
    ·simp[Sem.run_pure]
    simp[Result.andThen,el]
   rcases lf .sliceB h h1 with⟨rfl,rfl⟩|⟨vl,rfl,el⟩
   ·simp[Result.andThen,eh]
   simp[Sem.run_bind,Result.andThen,eh,el]
  rcases UR .slice3B m h2 with⟨rfl,rfl⟩|⟨vh,rfl,eh⟩
  ·simp at t9
  rcases lf .slice3C h h1 with⟨rfl,rfl⟩|⟨vl,rfl,el⟩
  ·simp[Sem.run_bind,Result.andThen,em,eh]
  simp[Sem.run_bind,Result.andThen,em,eh,el]
 rw[run_sliceAt_slice w t _ _ _ _ Ti,run_slice_any w t A n c Ti,hb];simp[Result.andThen,sizeOf,typeInfo,BF,hi',hs,sliced]
theorem kU(hr:Rd w B size A n c xs)(l h m:Nat)(h1:l≤h)(h2:h≤m)(h3:m≤c)(h4:h≤n):Rd w B size (cutA A size l m) (h-l) (m-l) ((xs.take (h*size)).drop (l*size)):=by
 unfold cutA;refine⟨?_,by omega,by have:=hr.max;omega,fun nA=>?_⟩
 ·have bQ:=hr.len;rw[q9,K0,bQ,q8 (K1 _ h4),Nat.sub_mul]
 obtain⟨b,off,rfl,hb,hc⟩:=hr.at_ Wq;rw[if_neg Wq];have nv:(⟨b,off,none⟩:Addr).add (l*size)=⟨b,off+l*size,none⟩:=by unfold Addr.add;split<;>simp_all
 refine⟨b,off+l*size,by simp[nv],hb,fun j u hu=>?_⟩;rw[z8,yB]at hu;split at hu
 ·rw[kI];exact hc _ u hu
 cases hu
theorem zcb(hT:SlT P t e size bytes z)(hr:Rd w B size A n c xs){lo hi mx:Option Value}(l h m:Nat)(fC:Bd lo 0 l)(mW:Bd hi n h)(nl:Bd mx c m)(t9:mx.isSome=true→hi.isSome=true)(h1:l≤h)(h2:h≤m)(h3:m≤c)(h4:h≤n):
  ∃A',(Instr.sliceAt t (.slice A n c) lo hi mx).run P w= .ok (.slice A' (h-l) (m-l)) w∧Rd w B size A' (h-l) (m-l) ((xs.take (h*size)).drop (l*size))∧(A'=A∨A'=A.map (·.add (l*size))):=
 ⟨_,kT hT w hr.max hr.cap l h m fC mW nl t9 h1 h2 h3 h4,kU hr l h m h1 h2 h3 h4,zca _ _ _ _⟩
theorem zbP{ops:Array Oper}{rest:List Oper}{o:Oper}{a:Act}{Q:Exit→Act→World→Prop}{x:Operand}{lo hi mx:Option Operand}(hT:SlT P t e size bytes z)(hw:Region.wanted o (yielded ops a.tmps)=true)
  (ho:o.op= .slice t x lo hi mx) (hx:a.eval x= .slice A n c) (hr:Rd w B size A n c xs) (l h m:Nat) (fC:Bd (lo.map a.eval) 0 l) (mW:Bd (hi.map a.eval) n h) (nl:Bd (mx.map a.eval) c m) (t9:mx.isSome=true→hi.isSome=true)
  (h1:l≤h) (h2:h≤m) (h3:m≤c) (h4:h≤n)
  (hk:∀A',Rd w B size A' (h-l) (m-l) ((xs.take (h*size)).drop (l*size))→wpList P ops Q rest (a.put o.dst (.slice A' (h-l) (m-l))) w):
  wpList P ops Q (o::rest) a w:=by
 refine BigFrame.wpList_want hw fun K hK=>?_
 obtain⟨A',bv,oc,_⟩:=zcb hT hr l h m fC mW nl (by simpa using t9) h1 h2 h3 h4;unfold Oper.wp execOp;simp only[ho,hx,Sem.run_bind,Sem.run_pure,Result.andThen_ok,bv];exact hK _ _ (hk A' oc)
theorem jm{src dst e:TypeId}(h1:P.underlying src=some (.slice e))(h2:P.underlying dst=some .string)(h3:P.underlying e=some (.int .u8)){l:List UInt8}(hr:RdB w B A n c l):
  (convert src dst (.slice A n c)).run P w= .ok (.string (str l)) w:=by
 have hl:=hr.length;rcases A with _|ad
 ·have hm:n=0:=by
   rcases Nat.eq_zero_or_pos n with h0|h0
   ·exact h0
   obtain⟨b,off,e,_⟩:=hr.at_ h0;cases e
  subst hm;have hn:l=[]:=k4 hl;subst hn;simp[convert,run_underlying h1,run_underlying h2,run_underlying h3,Conv.bytesToString];rfl
 rw[run_convert_bytes_string w src dst e (some ad) n c h1 h3 h2]
 have iy:∀j u,(l.map u8v)[j]?=some u→w.cell? (ad.add j)=some u:=by
  have qqic:=();exact Z42_
 have GH:=run_loadCells_list (P:=P) w ad (l.map u8v) iy;have hm:(l.map u8v)=(l.map fun x=>(x.toNat:Int)).map (Value.int .u8):=by simp[u8v]
 rw[k5,hl,hm]at GH;rw[run_bytesToString (P:=P) w ad n c (l.map fun x=>(x.toNat:Int)) GH]
 have hf:∀(l:List UInt8) (s:ByteArray),(l.map fun x=>(x.toNat:Int)).foldl (fun r n=>r.push (q0 n.toNat)) s=⟨s.data++l.toArray⟩:=by
  intro l
  induction l with
  | nil=>intro s;simp
  | cons x l ih=>intro s;simp only[kv,ky,ih];simp[ByteArray.push]
 rw[hf];show Result.ok (Value.string ⟨#[]++l.toArray⟩) w=_
 rw[Array.empty_append];rfl
theorem za{B:Nat}{a w:World}(h:Below B a w)(n:Nat):Below B a (w.drewN n):=⟨h.os,h.tape,h.output,h.size,h.block⟩
theorem Own.drewN(h:Own w base e size A n c xs)(k:Nat):Own (w.drewN k) base e size A n c xs:=h
theorem Rd.drewN(h:Rd w B size A n c xs)(k:Nat):Rd (w.drewN k) B size A n c xs:=h.keep fun _ _=>rfl
theorem Rd.drew(h:Rd w B size A n c xs):Rd w.drew B size A n c xs:=h.keep fun _ _=>rfl
theorem QV(w:World)(cs:Array Value)(e:TypeId)(fr:Nat×Nat)(n c:Nat)(hs:cs.size=n*size)(hc:n≤c)(hm:c≤maxLen):
  Rd (w.alloc (.cells cs e fr)) (w.alloc (.cells cs e fr)).heap.size size (some ⟨w.heap.size,0,none⟩) n c cs.toList:=by
 refine⟨by simpa using hs,hc,hm,fun _=>⟨w.heap.size,0,rfl,by simp,fun j u hu=>?_⟩⟩;rw[q3,cell_of_row _ w.heap.size j cs e fr (heap_alloc_new w _)];simpa using hu
theorem yq{w:World}(base:Nat)(cs:Array Value)(e n:Nat)(hb:base≤w.heap.size)(hm:n≤maxLen)(hs:cs.size=n*size)(_hpos:0<size):
  Own (w.alloc (.cells cs e)) base e size (some ⟨w.heap.size,0,none⟩) n n cs.toList:=World.ownsRow_lit w cs n hb hm hs
theorem zM(l:List UInt8):∀u∈l.map u8v,u.oneCell'=true:=by simp[zb9]
theorem OwnB.at_k{l:List UInt8}(h:Own w base e 1 A n c (l.map u8v)){k:Nat}(hk:k<n):∃g,A=some ⟨g,0,none⟩∧base≤g∧g<w.heap.size∧∃hl:k<l.length,w.cell? ⟨g,k,none⟩=some (.int .u8 (l[k].toNat:Int))∧
  w.frozen? ⟨g,k,none⟩=false∧∀x:UInt8,Own (w.setCell ⟨g,k,none⟩ (u8v x)) base e 1 A n c ((l.set k x).map u8v):=by
 have bQ:l.length=n:=by have:=h.1;simpa using this
 rcases h.2 with⟨hv,rfl⟩|⟨g,cap,cur,hv,hb,hh,_⟩
 ·omega
 injection hv with e1 e2 e3
 subst e1 e3;refine⟨g,rfl,hb,(Array.getElem?_eq_some_iff.1 hh).1,by omega,?_,h.frozenAt k,fun x=>?_⟩
 ·rw[h.cellAt k Wq,q6,KL Wq];rfl
 have:=(h.stored k (u8v x)).1;rwa[←List.map_set]at this
theorem OwnB.length{l:List UInt8}(h:Own w base e 1 A n c (l.map u8v)):l.length=n:=by have:=h.1;simpa using this
end
def k_A:Op→Bool
  | .call c=>match c.callee with
    | .builtin .append=>true
    | .builtin .copy=>true
    | _=>false
  | .makeSlice _ _ _=>true
  | _=>false
def k_B:Op→Bool
  | .store _ _ _=>true
  | o=>k_A o
def k_S:Op→Bool
  | .slice _ _ _ _ _=>true
  | o=>k_A o
def k_M:Op→Bool
  | .insert _ _ _ _=>true
  | .range _ _=>true
  | .next _ _=>true
  | o=>k_A o
section
variable {P : Program} {ops : Array Oper} {Q : Exit → Act → World → Prop} {rest : List Oper} {a : Act} {w : World} {o : Oper}
theorem h_A(h:Hold (wpList P ops Q (o::rest) a w))(_hs:k_A o.op=true:=by decide):wpList P ops Q (o::rest) a w:=h
theorem h_B(h:Hold (wpList P ops Q (o::rest) a w))(_hs:k_B o.op=true:=by decide):wpList P ops Q (o::rest) a w:=h
theorem h_S(h:Hold (wpList P ops Q (o::rest) a w))(_hs:k_S o.op=true:=by decide):wpList P ops Q (o::rest) a w:=h
theorem h_M(h:Hold (wpList P ops Q (o::rest) a w))(_hs:k_M o.op=true:=by decide):wpList P ops Q (o::rest) a w:=h
end
theorem g_S:(∀(α:Type) (l:List α) (i:Nat) (h:i<l.toArray.size),l.toArray[i]=l[i]'Nz)∧(∀(α:Type) (x:α) (l:List α) (i:Nat) (h:i+1<(x::l).length),(x::l)[i+1]=l[i]'Nz)∧(∀(α:Type) (x:α) (l:List α) (h:0<(x::l).length),(x::l)[0]=x)∧
    (∀(α:Type) (l:List α) (i:Nat) (x:α),l.toArray.setIfInBounds i x=(l.set i x).toArray)∧(∀(α:Type) (x y:α) (l:List α),(x::l).set 0 y=y::l)∧(∀(α:Type) (x y:α) (l:List α) (i:Nat),(x::l).set (i+1) y=x::l.set i y)∧(∀(a:Act) (v:Value),a.put none v=a)∧(∀(a:Act) (t:Nat) (v:Value),a.put (some t) v={a with tmps:=a.tmps.setIfInBounds t v}):=
  ⟨fun _ _ _ _=>rfl,fun _ _ _ _ _=>rfl,fun _ _ _ _=>rfl,fun _ _ _ _=>by simp,fun _ _ _ _=>rfl,fun _ _ _ _ _=>rfl,fun _ _=>rfl,fun _ _ _=>rfl⟩
end Go.PH
end
section
namespace Go.PH
open Go.RowKit
section
variable {P : Program} {ops : Array Oper} {Q : Exit → Act → World → Prop} {rest : List Oper} {a : Act} {w : World} {dst : Option Tmp} {ty : TypeId} {pos : String} {after : Array Edge} {guard : Option (Nat × Bool)}
end
theorem zl{H:Type}{P:Program}(w:World){ops:Array Oper}{rest:List Oper}{o:Oper}{a:Act}{Q:Exit→Act→World→Prop}
  (hg:o.guard=none) (m x v:Operand) (t:TypeId) (cS:o.op=Op.insert t m x v)
  (k e:TypeId) (K:Maps.Keyed P k) (ht:P.underlying t=some (.map k e)) (R:Value→Option (DataW H×List MemPlace)) (b n:Nat) (D:DataW H)
  (hm:a.eval m= .map (some b)) (Hl:w.ownsMap P k R b n D) (hn:n<maxLen) (key val:Value) (kl:Lit) (hx:a.eval x=key) (hv:a.eval v=val) (eI:keyOf P k key=some kl)
  (d:DataW H) (ps:List MemPlace) (t8:R val=some (d,ps))
  (hK:∀w',w'.ownsMap P k R b (n+1) (D.put kl d)→w.grownBy w' (some b)→wpList P ops Q rest (a.put o.dst undef) w'):
  wpList P ops Q (o::rest) a w:=by
 refine wpList_plain hg fun K' hK'=>?_
 obtain⟨w',bv,r1,r2⟩:=Hl.update K ht hn eI t8;unfold Oper.wp;simp[execOp,cS,hm,hx,hv,bv,Result.andThen];exact hK' _ _ (hK w' r1 r2)
end Go.PH
end
section
namespace Go.PH
open Go.RowKit Go.WideElems Go.ChangeMaps Go.MapKept
variable {H : Type} {P : Program} {w : World} {t k e : TypeId} {R : Value → Option (DataW H × List MemPlace)} {b n : Nat} {D : DataW H}
end Go.PH
end
section
namespace Go.PH
open Go.RowKit
section
variable {P : Program} {w w' : World} {base e size bytes t n c m B : Nat} {A A' : Option Addr} {xs news : List Value} {z : Value}
theorem kD{ops:Array Oper}{rest:List Oper}{o:Oper}{a:Act}{Q:Exit→Act→World→Prop}{x:Operand}{lo hi mx:Option Operand}(hT:SlT P t e size bytes z)(hw:Region.wanted o (yielded ops a.tmps)=true)
  (ho:o.op= .slice t x lo hi mx) (hx:a.eval x= .slice A n c) (hr:Rd w B size A n c xs) (l h m:Nat) (fC:Bd (lo.map a.eval) 0 l) (mW:Bd (hi.map a.eval) n h) (nl:Bd (mx.map a.eval) c m) (t9:mx.isSome=true→hi.isSome=true)
  (h1:l≤h) (h2:h≤m) (h3:m≤c) (h4:h≤n)
  (hk:∀A',Rd w B size A' (h-l) (m-l) ((xs.take (h*size)).drop (l*size))→blk A'=blk A→wpList P ops Q rest (a.put o.dst (.slice A' (h-l) (m-l))) w):
  wpList P ops Q (o::rest) a w:=by
 refine BigFrame.wpList_want hw fun K hK=>?_
 have bv:=kT (A:=A) hT w hr.max hr.cap l h m fC mW nl (by simpa using t9) h1 h2 h3 h4;unfold Oper.wp execOp;simp only[ho,hx,Sem.run_bind,Sem.run_pure,Result.andThen_ok,bv];exact hK _ _ (hk _ (kU hr l h m h1 h2 h3 h4) (jx _ _ _ _))
theorem Own.base_le{base' c:Nat}(h:Own w base e size A n c xs)(hb:base'≤base):Own w base' e size A n c xs:=
 ⟨h.1,h.2.imp id fun⟨g,cap,cur,h1,h2,h3⟩=>⟨g,cap,cur,h1,q4 hb h2,h3⟩⟩
theorem RdB.cut{l:List UInt8}{c lo k:Nat}(hr:RdB w B A n c l)(h:lo+k≤n):RdB w B (cutA A 1 lo c) k (c-lo) ((l.drop lo).take k):=by
 have h1:=kU hr lo (lo+k) c Wq (by have:=hr.cap;omega) (Q1 _) h
 have e:(((l.map u8v).take ((lo+k)*1)).drop (lo*1))=((l.drop lo).take k).map u8v:=by
  rw[kx,kx,←List.map_take,←List.map_drop,yA,k0]
 rw[e,k0]at h1;exact h1
end
end Go.PH
end
section
namespace Go.PH
open Go.RowKit
section
variable {P : Program} {w w' : World} {base e t n c : Nat} {A : Option Addr} {xs : List Value}
theorem jo(hl:xs.length=n)(l:List UInt8)(C:Nat)(hC:n+l.length≤C)(hm:C≤maxLen)(Hf:base≤w.heap.size):
  Own (w.drew.alloc (.cells (xs.toArray++(l.map u8v).toArray++Builtin.zeroCells (Value.int .u8 0).cells (C-(n+l.length))) e)) base e 1 (some ⟨w.heap.size,0,none⟩) (n+l.length) C (xs++l.map u8v):=by
 refine⟨by simp[hl],.inr ⟨w.heap.size,C,_,rfl,Hf,heap_alloc_new w.drew _,hC,hm,?_,?_⟩⟩
 ·have h1:(Value.int IntKind.u8 0).cells.size=1:=rfl;simp only[Array.size_append,k6,size_zeroCells,h1,hl,k5];omega
 rw[Array.toList_append,Array.toList_append,kx];simp only[];rw[q1 (by simp[hl]),Vy (by simp[hl])]
theorem jV{g cap:Nat}{cur:Array Value}(hg:w.heap[g]?=some (.cells cur e (0,0)))(fZ:cur.size=cap)(hx:cur.toList.take n=xs)(hn:xs.length=n)(l:List UInt8)(fP:n+l.length≤cap)(hm:cap≤maxLen)(hb:base≤g):
  Own (w.setRow g (cur.toList.take n++l.map u8v++cur.toList.drop (n+l.length)).toArray) base e 1 (some ⟨g,0,none⟩) (n+l.length) cap (xs++l.map u8v):=by
 refine⟨by simp[hn],.inr ⟨g,cap,_,rfl,hb,setRow_heap w g cur _ e _ hg,fP,hm,?_,?_⟩⟩
 ·simp;omega
 rw[hx,kx];simp only[];rw[q1 (by simp[hn]),Vy (by simp[hn])]
theorem jC{ops:Array Oper}{rest:List Oper}{o:Oper}{a:Act}{Q:Exit→Act→World→Prop}{s x:Operand}{u:TypeId}(hT:SlT P t e 1 1 (.int .u8 0))(hu:P.underlying u=some .string)(hw:Region.wanted o (yielded ops a.tmps)=true)
  (ho:o.op= .call {callee:=.builtin .append,args:=#[s,x],argTypes:=#[t,u]}) (hs:a.eval s= .slice A n c) {l:List UInt8} (hx:a.eval x= .string (str l))
  (Hl:Own w base e 1 A n c xs) (hio:l.length≤140737488355328) (Bm:(n+l.length)+(n+l.length) / 4+192≤281474976710656) (Hf:base≤w.heap.size)
  (h:∀A2 c2 w',Own w' base e 1 A2 (n+l.length) c2 (xs++l.map u8v)→w.grownBy w' (blk A)→wpList P ops Q rest (a.put o.dst (.slice A2 (n+l.length) c2)) w'):
  wpList P ops Q (o::rest) a w:=by
 have qq75:=();exact Z17_
end
end Go.PH
end
section
namespace Go.PH
open Go.RowKit
section
variable {P : Program} {w w' : World} {base e size bytes t t2 n c m B : Nat} {A A' : Option Addr} {xs news : List Value} {z : Value}
theorem Zn{e2:TypeId}(h1:P.underlying t=some (.slice e))(h2:P.underlying t2=some (.slice e2))(ty:TypeId)(u v:Value)(w:World):
  (Builtin.append_ #[t,t2] ty #[u,v]).run P w=(Builtin.append_ #[t,t] ty #[u,v]).run P w:=by
 cases u<;>simp[Builtin.append_,run_underlying h1,run_underlying h2]
theorem jL{ops:Array Oper}{o:Oper}{a:Act}{K:Act→World→Prop}{Q:Exit→Act→World→Prop}{s x:Operand}{e2:TypeId}(hT:SlT P t e size bytes z)(h2:P.underlying t2=some (.slice e2))
  (ho:o.op= .call {callee:=.builtin .append,args:=#[s,x],argTypes:=#[t,t2]}) (hs:a.eval s= .slice A n c) {c':Nat} (hx:a.eval x= .slice A' m c')
  (Hl:Own w base e size A n c xs) (hr:Rd w B size A' m c' news) (h1:∀u∈news,u.oneCell'=true)
  (Bm:(n+m)*bytes≤140737488355328) (Dd:n+m≤maxLen) (Hf:base≤w.heap.size)
  (h:∀A2 c2 w',Own w' base e size A2 (n+m) c2 (xs++news)→w.grownBy w' (blk A)→(blk A2=blk A∨blk A2=some w.heap.size)→K (a.put o.dst (.slice A2 (n+m) c2)) w'):
  o.wp P a w K Q:=by
 obtain⟨A2,c2,w',bv,Ou,h3,h4⟩:=KA hT o.type Hl hr h1 Bm Dd Hf;unfold Oper.wp execOp;simp only[ho,resolve,invoke,builtin,Sem.run_bind,Sem.run_pure,Result.andThen_ok,k7,kv,k8,hs,hx,Zn hT.u h2,bv];exact h A2 c2 w' Ou h3 h4
end
end Go.PH
end
section
namespace Go.PH
open Go.RowKit
section
variable {P : Program} {w w' : World} {g : Nat} {t : TypeId} {cs : Array Value}
def Box(w:World)(g:Nat)(t:TypeId)(cs:Array Value):Prop:=w.heap[g]?=some (.cells cs t (0,0))
theorem Box.new(w:World)(cs:Array Value)(t:TypeId):Box (w.alloc (.cells cs t)) w.heap.size t cs:=by
 show(w.heap.push _)[w.heap.size]?=_
 simp
theorem Box.lt(h:Box w g t cs):g<w.heap.size:=(Array.getElem?_eq_some_iff.1 h).1
theorem Box.grown(h:Box w g t cs){row:Option Nat}(hg:w.grownBy w' row)(hne:some g≠row):Box w' g t cs:=(hg.block g h.lt hne).trans h
theorem Box.below(h:Box w g t cs)(hB:Below w.heap.size w w'):Box w' g t cs:=(hB.block g h.lt).trans h
theorem Box.alloc(h:Box w g t cs)(o:Obj):Box (w.alloc o) g t cs:=(Below.heap_alloc w o g h.lt).trans h
theorem Box.cell(h:Box w g t cs){j:Nat}{u:Value}(hj:cs[j]?=some u):w.cell? ⟨g,j,none⟩=some u:=by
 unfold Box at h;simp[World.cell?,h,hj]
theorem Box.thaw(h:Box w g t cs)(j:Nat):w.frozen? ⟨g,j,none⟩=false:=by
 unfold Box at h;simp[World.frozen?,h]
theorem zaG(w:World)(g:Nat)(cs:Array Value):w.grownBy (w.setRow g cs) (some g):=
 ⟨rfl,rfl,rfl,by simp,fun k _ hk=>setRow_other w g k cs (fun e=>hk (by rw[e]))⟩
theorem Xf{ty:TypeId}{v:Value}{j:Nat}{vs:List Value}{cs':Array Value}(hb:Box w g t cs)(hv:v.cells.toList=vs)(hi:(P.info? ty).map (·.size)=some vs.length)(hj:j+vs.length≤cs.size)
  (h1:∀u∈vs,u.oneCell'=true) (hc:cs'=(cs.toList.take j++vs++cs.toList.drop (j+vs.length)).toArray):
  (Instr.storeAt ty (.pointer (some ⟨g,j,none⟩)) v).run P w= .ok () (w.setRow g cs'):=by
 have:=run_storeCells_at (P:=P) g j t vs 0 cs w hb (by simpa using hj) h1
 cases hq:P.info? ty with
 | none=>simp[hq]at hi
 | some i=>
  have hs:v.cells.size=i.size:=by rw[hq]at hi;simp at hi;rw[hi,←hv];simp
  subst hc;simp[Instr.storeAt,Instr.sureAddr,storeVar,sizeOf,typeInfo,hq,hs,hv,this]
theorem Box.row(hb:Box w g t cs)(cs':Array Value):Box (w.setRow g cs') g t cs':=setRow_heap w g cs cs' t _ hb
variable {ops : Array Oper} {Q : Exit → Act → World → Prop} {rest : List Oper} {a : Act} {dst : Option Tmp} {ty : TypeId} {pos : String} {after : Array Edge} {guard : Option (Nat × Bool)}
theorem yM{t:TypeId}{x y:Operand}(h:Hold (wpList P ops Q (⟨dst,.store t x y,ty,pos,after,guard⟩::rest) a w)):
  wpList P ops Q (⟨dst,.store t x y,ty,pos,after,guard⟩::rest) a w:=h
theorem zK{o:Oper}{K:Act→World→Prop}{x y:Operand}{v:Value}{j:Nat}{vs:List Value}(ho:o.op= .store ty x y)(hx:a.eval x= .pointer (some ⟨g,j,none⟩))(hy:a.eval y=v)
  (hb:Box w g t cs) (hv:v.cells.toList=vs) (hi:(P.info? ty).map (·.size)=some vs.length) (hj:j+vs.length≤cs.size) (h1:∀u∈vs,u.oneCell'=true) (cs':Array Value) (hc:cs'=(cs.toList.take j++vs++cs.toList.drop (j+vs.length)).toArray)
  (h:∀w',Box w' g t cs'→w.grownBy w' (some g)→w'.heap.size=w.heap.size→K (a.put o.dst undef) w'):o.wp P a w K Q:=by
 unfold Oper.wp execOp;simp only[ho,hx,hy,Sem.run_bind,Sem.run_pure,Result.andThen_ok,Xf hb hv hi hj h1 hc];exact h _ (hb.row _) (zaG _ _ _) Wz
theorem zm{o:Oper}{x y:Operand}{v:Value}{j:Nat}{vs:List Value}(hw:Region.wanted o (yielded ops a.tmps)=true)(ho:o.op= .store ty x y)(hx:a.eval x= .pointer (some ⟨g,j,none⟩))(hy:a.eval y=v)
  (hb:Box w g t cs) (hv:v.cells.toList=vs) (hi:(P.info? ty).map (·.size)=some vs.length) (hj:j+vs.length≤cs.size) (h1:∀u∈vs,u.oneCell'=true) (cs':Array Value) (hc:cs'=(cs.toList.take j++vs++cs.toList.drop (j+vs.length)).toArray)
  (h:∀w',Box w' g t cs'→w.grownBy w' (some g)→w'.heap.size=w.heap.size→wpList P ops Q rest (a.put o.dst undef) w'):wpList P ops Q (o::rest) a w:=
 BigFrame.wpList_want hw fun K hK=>zK ho hx hy hb hv hi hj h1 cs' hc fun w' h1 h2 h3=>hK _ _ (h w' h1 h2 h3)
theorem zG{fn:Func}{R:Ending→World→Prop}{a:Act}{w:World}{g:Nat}{t ty:TypeId}{cs:Array Value}{p u:Tmp}{v:Value}{d:TypeDesc}(By:fn.results= #[.cell p ty,.tmp u])(hb:Box w g t cs)
  (hp:a.tmps.getD p undef= .pointer (some ⟨g,0,none⟩)) (hv:a.tmps.getD u undef=v) (hu:P.underlying ty=some d) (hd:(match d with| .struct _| .array _ _=>true|_=>false)=true) (hi:(P.info? ty).map (·.size)=some cs.size)
  (AV:a.defers=[]) (hR:R (.returned (.tuple #[.agg cs,v])) w):bodyPost P fn R .ret a w:=by
 refine bodyPost_ret (v:=.tuple #[.agg cs,v]) ?_ AV hR;rw[results_cell_tmp By,hp,hv];exact Z6g_
end
theorem sne{a b:Nat}(h:a≠b):some a≠some b:=fun e=>h NJ
theorem Box.c0{w:World}{g:Nat}{t:TypeId}{cs:Array Value}{u:Value}(h:Box w g t cs)(hj:cs[0]?=some u:=by rfl):w.cell? ⟨g,0,none⟩=some u:=h.cell hj
theorem Box.c1{w:World}{g:Nat}{t:TypeId}{cs:Array Value}{u:Value}(h:Box w g t cs)(hj:cs[1]?=some u:=by rfl):w.cell? ⟨g,1,none⟩=some u:=h.cell hj
theorem Box.c2{w:World}{g:Nat}{t:TypeId}{cs:Array Value}{u:Value}(h:Box w g t cs)(hj:cs[2]?=some u:=by rfl):w.cell? ⟨g,2,none⟩=some u:=h.cell hj
theorem Box.c3{w:World}{g:Nat}{t:TypeId}{cs:Array Value}{u:Value}(h:Box w g t cs)(hj:cs[3]?=some u:=by rfl):w.cell? ⟨g,3,none⟩=some u:=h.cell hj
theorem Box.c4{w:World}{g:Nat}{t:TypeId}{cs:Array Value}{u:Value}(h:Box w g t cs)(hj:cs[4]?=some u:=by rfl):w.cell? ⟨g,4,none⟩=some u:=h.cell hj
theorem Box.c5{w:World}{g:Nat}{t:TypeId}{cs:Array Value}{u:Value}(h:Box w g t cs)(hj:cs[5]?=some u:=by rfl):w.cell? ⟨g,5,none⟩=some u:=h.cell hj
theorem Box.c6{w:World}{g:Nat}{t:TypeId}{cs:Array Value}{u:Value}(h:Box w g t cs)(hj:cs[6]?=some u:=by rfl):w.cell? ⟨g,6,none⟩=some u:=h.cell hj
theorem Box.c7{w:World}{g:Nat}{t:TypeId}{cs:Array Value}{u:Value}(h:Box w g t cs)(hj:cs[7]?=some u:=by rfl):w.cell? ⟨g,7,none⟩=some u:=h.cell hj
theorem Box.c8{w:World}{g:Nat}{t:TypeId}{cs:Array Value}{u:Value}(h:Box w g t cs)(hj:cs[8]?=some u:=by rfl):w.cell? ⟨g,8,none⟩=some u:=h.cell hj
theorem Box.c9{w:World}{g:Nat}{t:TypeId}{cs:Array Value}{u:Value}(h:Box w g t cs)(hj:cs[9]?=some u:=by rfl):w.cell? ⟨g,9,none⟩=some u:=h.cell hj
theorem Box.c10{w:World}{g:Nat}{t:TypeId}{cs:Array Value}{u:Value}(h:Box w g t cs)(hj:cs[10]?=some u:=by rfl):w.cell? ⟨g,10,none⟩=some u:=h.cell hj
theorem Box.c11{w:World}{g:Nat}{t:TypeId}{cs:Array Value}{u:Value}(h:Box w g t cs)(hj:cs[11]?=some u:=by rfl):w.cell? ⟨g,11,none⟩=some u:=h.cell hj
end Go.PH
end
section
namespace Go.PH
open Go.RowKit
theorem kV{fn:Func}{p u v:Tmp}{ty:TypeId}(h:fn.results= #[.cell p ty,.tmp u,.tmp v])(tmps:Array Value)(P:Program)(w:World):
  (results fn tmps).run P w=
   ((asAddr (tmps.getD p undef)).run P w).andThen fun a w₁=>((loadVar ty a).run P w₁).andThen fun x w₂=>.ok (.tuple #[x,tmps.getD u undef,tmps.getD v undef]) w₂:=by
 simp only[results,h];simp[Sem.run_bind,Result.andThen]
theorem zv{P:Program}{fn:Func}{R:Ending→World→Prop}{a:Act}{w:World}{g:Nat}{t ty:TypeId}{cs:Array Value}{p u u2:Tmp}{v v2:Value}{d:TypeDesc}(By:fn.results= #[.cell p ty,.tmp u,.tmp u2])(hb:Box w g t cs)
  (hp:a.tmps.getD p undef= .pointer (some ⟨g,0,none⟩)) (hv:a.tmps.getD u undef=v) (fj:a.tmps.getD u2 undef=v2) (hu:P.underlying ty=some d) (hd:(match d with| .struct _| .array _ _=>true|_=>false)=true) (hi:(P.info? ty).map (·.size)=some cs.size)
  (AV:a.defers=[]) (hR:R (.returned (.tuple #[.agg cs,v,v2])) w):bodyPost P fn R .ret a w:=by
 refine bodyPost_ret (v:=.tuple #[.agg cs,v,v2]) ?_ AV hR;rw[kV By,hp,hv,fj];exact Z6g_
end Go.PH
end
section
namespace Go.PH
open Go.RowKit
section
variable {P : Program} {w w' : World} {base e t n c : Nat} {A : Option Addr} {xs : List Value}
theorem JF{o:Oper}{a:Act}{K:Act→World→Prop}{Q:Exit→Act→World→Prop}{s x:Operand}{u:TypeId}(hT:SlT P t e 1 1 (.int .u8 0))(hu:P.underlying u=some .string)
  (ho:o.op= .call {callee:=.builtin .append,args:=#[s,x],argTypes:=#[t,u]}) (hs:a.eval s= .slice A n c) {l:List UInt8} (hx:a.eval x= .string (str l))
  (Hl:Own w base e 1 A n c xs) (Bm:n+l.length≤140737488355328) (Hf:base≤w.heap.size)
  (h:∀A2 c2 w',Own w' base e 1 A2 (n+l.length) c2 (xs++l.map u8v)→w.grownBy w' (blk A)→K (a.put o.dst (.slice A2 (n+l.length) c2)) w'):
  o.wp P a w K Q:=by
 have qqbh:=();exact Z2f_
theorem zi{w w':World}{base e size n c:Nat}{A:Option Addr}{xs:List Value}(ho:Own w base e size A n c xs)(hB:Below w.heap.size w w'):Own w' base e size A n c xs:=
 ho.kept (row:=none) ⟨hB.os,hB.tape,hB.output,hB.size,fun k hk _=>hB.block k hk⟩ (by cases hv:(Value.slice A n c).ownBlock<;>simp)
theorem zk{w w':World}{base e size n c:Nat}{A:Option Addr}{xs:List Value}{row:Option Nat}(ho:Own w base e size A n c xs)(hg:w.grownBy w' row)(h:∀g,blk A=some g→row≠some g):Own w' base e size A n c xs:=
 ho.kept hg (by
  rw[xh]
  cases hA:blk A with
  | none=>exact .inl rfl
  | some g=>exact .inr fun e=>h g hA e.symm)
end
end Go.PH
end
section
namespace Go.PH
open Go.RowKit
section
variable {P : Program} {fn : Func} {p : Tmp} {ty : TypeId}
theorem Z1(h:fn.results= #[.cell p ty])(tmps:Array Value)(P:Program)(w:World):
  (results fn tmps).run P w=((asAddr (tmps.getD p undef)).run P w).andThen fun a w₁=>(loadVar ty a).run P w₁:=by
 simp only[results,h];simp[Sem.run_bind,Result.andThen]
theorem xG{R:Ending→World→Prop}{a:Act}{w:World}{g:Nat}{t:TypeId}{cs:Array Value}{d:TypeDesc}(By:fn.results= #[.cell p ty])(hb:Box w g t cs)
  (hp:a.tmps.getD p undef= .pointer (some ⟨g,0,none⟩)) (hu:P.underlying ty=some d) (hd:(match d with| .struct _| .array _ _=>true|_=>false)=true) (hi:(P.info? ty).map (·.size)=some cs.size)
  (AV:a.defers=[]) (hR:R (.returned (.agg cs)) w):bodyPost P fn R .ret a w:=by
 refine bodyPost_ret (v:=.agg cs) ?_ AV hR;rw[Z1 By,hp];exact Z6g_
end
end Go.PH
end
section
namespace Go.PH
open Go.RowKit
section
variable {P : Program} {w w' : World} {base e t n c : Nat} {A : Option Addr} {xs : List Value}
theorem jB{ops:Array Oper}{rest:List Oper}{o:Oper}{a:Act}{Q:Exit→Act→World→Prop}{s x:Operand}{u:TypeId}(hT:SlT P t e 1 1 (.int .u8 0))(hu:P.underlying u=some .string)(hw:Region.wanted o (yielded ops a.tmps)=true)
  (ho:o.op= .call {callee:=.builtin .append,args:=#[s,x],argTypes:=#[t,u]}) (hs:a.eval s= .slice A n c) {l:List UInt8} (hx:a.eval x= .string (str l))
  (Hl:Own w base e 1 A n c xs) (Bm:n+l.length≤100000000000) (Hf:base≤w.heap.size)
  (h:∀A2 c2 w',Own w' base e 1 A2 (n+l.length) c2 (xs++l.map u8v)→w.grownBy w' (blk A)→(blk A2=blk A∨∀g,blk A2=some g→w.heap.size≤g)→wpList P ops Q rest (a.put o.dst (.slice A2 (n+l.length) c2)) w'):
  wpList P ops Q (o::rest) a w:=by
 exact Z17_
end
end Go.PH
end
section
namespace Go.PH
open Go.RowKit
section
variable {P : Program} {w w' : World} {B e t n : Nat} {A : Option Addr} {xs : List Value}
theorem V3{u:TypeId}(hu:P.underlying u=some .string)(l:List UInt8):Src P 1 u (.string (str l)) l.length (l.map u8v) w:=by
 have h:=Src.ofString (P:=P) w hu (str l);have e1:byteCells (str l)=l.map u8v:=by simp[byteCells,str,u8v]
 rw[e1,zh]at h;exact h
theorem QH{ops:Array Oper}{rest:List Oper}{o:Oper}{a:Act}{Q:Exit→Act→World→Prop}{s x:Operand}{u:TypeId}(hT:SlT P t e 1 1 (.int .u8 0))(hu:P.underlying u=some .string)(hw:Region.wanted o (yielded ops a.tmps)=true)
  (ho:o.op= .call {callee:=.builtin .append,args:=#[s,x],argTypes:=#[t,u]}) (hs:a.eval s= .slice A n n) {l:List UInt8} (hx:a.eval x= .string (str l))
  (hr:Rd w B 1 A n n xs) (hB:B≤w.heap.size) (Bm:n+l.length≤100000000000)
  (h:∀A2 c2 w',Rd w' w'.heap.size 1 A2 (n+l.length) c2 (xs++l.map u8v)→Below w.heap.size w w'→(blk A2=blk A∨∀g,blk A2=some g→w.heap.size≤g∧g<w'.heap.size)→wpList P ops Q rest (a.put o.dst (.slice A2 (n+l.length) c2)) w'):
  wpList P ops Q (o::rest) a w:=by
 obtain⟨i,hi,hz,BW,dX⟩:=hT.i;have d9:xs.length=n:=by simpa using hr.len
 refine BigFrame.wpList_want hw fun K hK=>?_
 by_cases h0:l.length=0
 ·obtain rfl:l=[]:=k4 h0;have bv:=run_append_nothing (P:=P) w t u o.type e i hT.u hi A n n (Q1 _) (.string (str [])) (by rw[BW];exact V3 hu []);unfold Oper.wp execOp;simp only[ho,resolve,invoke,builtin,Sem.run_bind,Sem.run_pure,Result.andThen_ok,k7,kv,k8,hs,hx,bv];exact hK _ _ (h A n w (by simpa using hr.more hB) (K2 _ _) (.inl rfl))
 have hold:(Builtin.firstCells i.size n (.slice A n n)).run P w.drew= .ok xs.toArray w.drew:=by
  by_cases hn:0<n
  ·obtain⟨b,off,rfl,hb,hc⟩:=hr.at_ hn;exact run_firstCells_some (P:=P) w.drew i.size n ⟨b,off,none⟩ n n xs (by rw[BW];simpa using d9) (fun j v hj=>by have h5:=hc j v hj;rw[Addr.add_lit];simpa using h5)
  obtain rfl:n=0:=by omega
  have wu:xs=[]:=k4 d9;subst wu
  cases A with
  | none=>exact run_firstCells_none w.drew i.size 0 0 0
  | some b=>exact run_firstCells_some w.drew i.size 0 b 0 0 [] Wz (by intro j v hj;simp at hj)
 have bv:=run_append_grow_src (P:=P) w t u o.type e i (.int .u8 0) hT.u hi hz A n n xs hold (.string (str l)) l.length (l.map u8v) (by rw[BW];exact V3 hu l) Wq Wq
  (by rw[dX];exact growslice_fits_wide Wq Wq)
 unfold Oper.wp execOp;simp only[ho,resolve,invoke,builtin,Sem.run_bind,Sem.run_pure,Result.andThen_ok,k7,kv,k8,hs,hx,bv];rw[show(xs++l.map u8v).toArray=xs.toArray++(l.map u8v).toArray by simp];have hO:=jo (w:=w) (e:=e) (base:=w.heap.size) d9 l (grownCap w (n+l.length) n e) (grownCap_ge _ _ _ _) (grownCap_le_maxLen _ _ _ _ (by simp only[maxLen];omega)) (Q1 _);exact hK _ _ (h _ _ _ hO.rd ((za (K2 w.heap.size w) 1).alloc (Q1 _) _) (.inr fun g hg=>by injection hg with hg;exact⟨Nat.le_of_eq hg,by rw[←hg];simp[World.drewN]⟩))
theorem QI{base c:Nat}{ops:Array Oper}{rest:List Oper}{o:Oper}{a:Act}{Q:Exit→Act→World→Prop}{s x:Operand}{u:TypeId}(hT:SlT P t e 1 1 (.int .u8 0))(hu:P.underlying u=some .string)(hw:Region.wanted o (yielded ops a.tmps)=true)
  (ho:o.op= .call {callee:=.builtin .append,args:=#[s,x],argTypes:=#[t,u]}) (hs:a.eval s= .slice A n c) {l:List UInt8} (hx:a.eval x= .string (str l))
  (fX:Own w base e 1 A n c xs∨c=n∧Rd w B 1 A n n xs) (hB:B≤w.heap.size) (Hf:base≤w.heap.size) (Bm:n+l.length≤100000000000) (hA:∀g,blk A=some g→base≤g∧g<w.heap.size)
  (h:∀A2 c2 w',Rd w' w'.heap.size 1 A2 (n+l.length) c2 (xs++l.map u8v)→(Own w base e 1 A n c xs→Own w' base e 1 A2 (n+l.length) c2 (xs++l.map u8v))→w.grownBy w' (blk A)→(blk A2=blk A∨∀g,blk A2=some g→w.heap.size≤g)→(∀g,blk A2=some g→base≤g∧g<w'.heap.size)→wpList P ops Q rest (a.put o.dst (.slice A2 (n+l.length) c2)) w'):
  wpList P ops Q (o::rest) a w:=by
 by_cases hO:Own w base e 1 A n c xs
 ·exact jB hT hu hw ho hs hx hO Bm Hf fun A2 c2 w' h1 h2 h3=>h A2 c2 w' h1.rd (fun _=>h1) h2 h3 fun g hg=>h1.blk_lt hg
 obtain⟨rfl,hr⟩:=fX.resolve_left hO;refine QH hT hu hw ho hs hx hr hB Bm fun A2 c2 w' h1 h2 h3=>h A2 c2 w' h1 (fun e=>absurd e hO) ⟨h2.os,h2.tape,h2.output,h2.size,fun k hk _=>h2.block k hk⟩ (h3.imp id fun e g hg=>(e g hg).1) fun g hg=>?_
 rcases h3 with e|e
 ·rw[e]at hg;exact⟨(hA g hg).1,k9 (hA g hg).2 h2.size⟩
 exact⟨q4 Hf (e g hg).1,(e g hg).2⟩
end
end Go.PH
end
section
namespace Go.PH
def be:Nat→Nat→List UInt8
 | 0,_=>[]
 | i+1,n=>q0 (n / 256 ^ i)::be i n
theorem zr(i n:Nat):(be i n).length=i:=by
 induction i with
 | zero=>rfl
 | succ i ih=>simp[be,ih]
def qK(w:Int):Bool:=w==1||w==2||w==4||w==8
theorem Zm(w:Int):qK w=true↔(w=1∨w=2∨w=4∨w=8):=by unfold qK;simp[or_assoc]
theorem qL{w:Int}(h:w=1∨w=2∨w=4∨w=8):qK w=true:=(Zm w).2 h
theorem YI{w:Int}(h1:w≠1)(h2:w≠2)(h4:w≠4)(h8:w≠8):qK w=false:=by unfold qK;simp[h1,h2,h4,h8]
theorem j7{w:Int}(h:qK w=true):1≤w∧w≤8:=by rw[Zm]at h;omega
def unbe(l:List UInt8):Nat:=l.foldl (fun n c=>256*n+c.toNat) 0
theorem Xe(l:List UInt8)(c:UInt8):unbe (l++ [c])=256*unbe l+c.toNat:=by simp[unbe]
theorem vw(l:List UInt8):unbe l<256 ^ l.length:=by
 have key:∀(l:List UInt8) (n k:Nat),n<256 ^ k→l.foldl (fun n c=>256*n+c.toNat) n<256 ^ (k+l.length):=by
  intro l
  induction l with
  | nil=>intro n k h;simpa using h
  | cons c l ih=>
   intro n k h;simp only[ky,Vx];have:=ih (256*n+c.toNat) (k+1) (by have:=c.toNat_lt;rw[vv];omega);rwa[Nat.add_right_comm,kI]at this
 have:=key l 0 0 Wz;rwa[q3]at this
theorem Qb(i n:Nat):∀acc:Nat,(be i n).foldl (fun n c=>256*n+c.toNat) acc=acc*256 ^ i+n % 256 ^ i:=by
 induction i with
 | zero=>intro acc;simp[be,Nat.mod_one]
 | succ i ih=>
  intro acc;simp only[be,ky,ih,UInt8.toNat_ofNat'];have h1:n % 256 ^ (i+1)=n % 256 ^ i+256 ^ i*(n / 256 ^ i % 256):=by rw[vv,Nat.mod_mul]
  have h2:acc*256 ^ (i+1)=256*acc*256 ^ i:=by rw[vv,k1 256 acc,Nat.mul_assoc,k1 256]
  have h3:(256*acc+n / 256 ^ i % 2 ^ 8)*256 ^ i=256*acc*256 ^ i+256 ^ i*(n / 256 ^ i % 256):=by rw[VB,k1 (256 ^ i)]
  rw[h1,h2,h3];omega
theorem vx(i n:Nat):unbe (be i n)=n % 256 ^ i:=by unfold unbe;rw[Qb];simp
def puts(b:List UInt8)(n:Nat)(w:Int):List UInt8:=if qK w then b++be w.toNat n else b
theorem yV{b:List UInt8}{n:Nat}{w:Int}(h:qK w=true):puts b n w=b++be w.toNat n:=by unfold puts;rw[if_pos h]
theorem Kz{b:List UInt8}{n:Nat}{w:Int}(h:qK w=false):puts b n w=b:=by unfold puts;rw[if_neg (by simp[h])]
def zE(n:Nat)(w:Int):Int:=if w=1∨w=2∨w=4 then(if n<256 ^ w.toNat then 0 else 3)else 2
def zP(b s:List UInt8)(w:Int):List UInt8:=if zE s.length w=0 then b++be w.toNat s.length++s else []
theorem zc2(i n k:Nat)(h:k<i):(y1 (i-k) 0++be k n).set (i-1-k) (q0 (n / 256 ^ k))=y1 (i-(k+1)) 0++be (k+1) n:=by
 have e:i-k=(i-1-k)+1:=by omega
 rw[e,List.replicate_succ',y2];have e2:i-(k+1)=i-1-k:=by omega
 rw[e2,List.set_append_right _ _ Wz];simp[be]
def xe(l:List UInt8)(bad:Bool)(x:Int):List UInt8×List UInt8×Bool:=if bad=true∨x<0∨(l.length:Int)<x then([],[],true)else(l.take x.toNat,l.drop x.toNat,false)
theorem jg{l:List UInt8}{bad:Bool}{x:Int}(h:bad=true∨x<0∨(l.length:Int)<x):xe l bad x=([],[],true):=by unfold xe;rw[if_pos h]
theorem xp{l:List UInt8}{n:Nat}(h:n≤l.length):xe l false (n:Int)=(l.take n,l.drop n,false):=by unfold xe;rw[if_neg Hq];simp
def mnum(l:List UInt8)(bad:Bool)(x:Int):Nat×List UInt8×Bool:=if qK x then(unbe (xe l bad x).1,(xe l bad x).2)else(0,[],true)
theorem Qc{l:List UInt8}{bad:Bool}{x:Int}(h:qK x=false):mnum l bad x=(0,[],true):=by unfold mnum;rw[if_neg (by simp[h])]
theorem qG{l:List UInt8}{bad:Bool}{x:Int}(h:qK x=true):mnum l bad x=(unbe (xe l bad x).1,(xe l bad x).2):=by unfold mnum;rw[if_pos h]
theorem kR:unbe []=0:=rfl
theorem xg(l:List UInt8)(bad:Bool)(x:Int):(mnum l bad x).1<18446744073709551616:=by
 unfold mnum xe;split
 ·rename_i h
  have:=j7 h;split
  ·simp[kR]
  simp only;refine k9 (vw _) ?_;refine q4 (Nat.pow_le_pow_right Wq (show(l.take x.toNat).length≤8 by rw[K0];omega)) WJ
 simp
def zT(l:List UInt8)(bad:Bool)(x most:Int):List UInt8×List UInt8×Bool:=
 if x=1∨x=2∨x=4 then
  let r:=mnum l bad x
  if r.2.2=true∨most<0∨most<(r.1:Int)∨r.2.1.length<r.1 then([],[],true)else xe r.2.1 r.2.2 (r.1:Int)
 else([],[],true)
theorem QU{l:List UInt8}{bad:Bool}{x most:Int}(h:¬(x=1∨x=2∨x=4)):zT l bad x most=([],[],true):=by unfold zT;rw[if_neg h]
theorem Za{l:List UInt8}{bad:Bool}{x most:Int}(h8:x≠8):zT l bad x most=if(mnum l bad x).2.2=true∨most<0∨most<((mnum l bad x).1:Int)∨(mnum l bad x).2.1.length<(mnum l bad x).1 then([],[],true)else xe (mnum l bad x).2.1 (mnum l bad x).2.2 ((mnum l bad x).1:Int):=by
 unfold zT;by_cases h:x=1∨x=2∨x=4
 ·rw[if_pos h]
 rw[if_neg h,Qc (YI Wq Wq Wq h8),if_pos (.inl rfl)]
end Go.PH
end
section
namespace Go.PH
structure Fr where
 first:Bool
 last:Bool
 beg:Bool
 fin:Bool
 ty:Nat
 track:Nat
 chan:Nat
 load:List UInt8
deriving DecidableEq
def Fr.wf(f:Fr):Prop:=f.ty<256∧f.track<256∧f.chan<65536
def bitv(b:Bool)(n:Nat):Nat:=if b then n else 0
def Fr.flags(f:Fr):Nat:=bitv f.first 8+bitv f.last 4+bitv f.beg 2+bitv f.fin 1
def Fr.ok(f:Fr):Bool:=decide (f.ty≤3)&&decide (f.track≤15)&&decide (f.load.length≤4084)
def Fr.err(f:Fr):Nat:=if f.ok then 0 else 60
def Fr.bytes(f:Fr):List UInt8:=[q0 f.flags,q0 f.ty]++be 2 (12+f.load.length)++ [0,q0 f.track]++be 2 f.chan++ [0,0,0,0]++f.load
def Fr.put(f:Fr):List UInt8:=if f.ok then f.bytes else []
theorem Fr.flags_lt(f:Fr):f.flags<16:=by
 unfold Fr.flags bitv
 cases f.first<;>cases f.last<;>cases f.beg<;>cases f.fin<;>decide
end Go.PH
end
section
namespace Go.PH
structure Sg where
 ty:Nat
 load:List UInt8
deriving DecidableEq
structure As where
 chan:Nat
 track:Nat
 segs:List Sg
deriving DecidableEq
def As.wf(a:As):Prop:=a.chan<65536∧a.track<256∧∀s∈a.segs,s.ty<256
def yK:List Sg→Nat
 | []=>0
 | s::r=>s.load.length+yK r
def xn(n:Nat)(prev:Option Nat):List Sg→Bool
 | []=>true
 | s::r=>decide (s.ty≤3)&&(match prev with|none=>true|some p=>decide (p<s.ty))&&decide (n+s.load.length≤16384)&&xn (n+s.load.length) (some s.ty) r
def jN(a:As):Bool:=match a.segs with
 | []=>false
 | s::r=>decide (s.ty=a.track)&&decide (a.track≤1)&&(decide (a.track≠0)||r.isEmpty)
def asOk(a:As):Bool:=xn 0 none a.segs&&jN a
def cutS(most:Nat):Nat→Fr→List UInt8→List Fr
 | 0,f,s=>[⟨f.first,f.last,f.beg,true,f.ty,f.track,f.chan,s⟩]
 | k+1,f,s=>if s.length≤most then [⟨f.first,f.last,f.beg,true,f.ty,f.track,f.chan,s⟩]else
   ⟨f.first,f.last,f.beg,false,f.ty,f.track,f.chan,s.take most⟩::cutS most k ⟨f.first,f.last,false,false,f.ty,f.track,f.chan,[]⟩ (s.drop most)
def cutL(most chan track n:Nat):Nat→List Sg→List Fr
 | _,[]=>[]
 | i,s::r=>cutS most s.load.length ⟨decide (i=0),decide (i+1=n),true,false,s.ty,track,chan,[]⟩ s.load++cutL most chan track n (i+1) r
def vr(most:Nat)(a:As):List Fr:=cutL most a.chan a.track a.segs.length 0 a.segs
def yP(most:Int)(a:As):Nat:=if most<1∨4084<most then 2 else if asOk a then 0 else 70
structure GS where
 dead:Bool
 op:Nat→Nat→List Fr
def GS.new:GS:=⟨false,fun _ _=>[]⟩
def zI:List Fr→Nat
 | []=>0
 | f::r=>f.load.length+zI r
def vZ:List Sg→List UInt8→List Sg
 | [],_=>[]
 | [s],x=>[⟨s.ty,s.load++x⟩]
 | s::t::r,x=>s::vZ (t::r) x
def xE(l:List Sg)(f:Fr):List Sg:=vZ (if f.beg then l++ [⟨f.ty,[]⟩]else l) f.load
def zZ(l:List Fr):List Sg:=l.foldl xE []
def fitsB(l:List Fr)(f:Fr):Bool:=
 if 1<f.track then false else match l.getLast? with
 | none=>f.first&&f.beg&&decide (f.ty=f.track)&&(f.last||decide (f.track=1))
 | some x=>if x.fin then f.beg&& !f.first&&decide (x.ty<f.ty)else !f.beg&&decide (f.ty=x.ty)&&(f.first==x.first)&&(f.last==x.last)
def GS.err(g:GS)(f:Fr):Nat:=if g.dead then 9 else if !f.ok then 60 else if !fitsB (g.op f.chan f.track) f then 70 else if 16384<zI (g.op f.chan f.track)+f.load.length then 3 else 0
def GS.upd(g:GS)(c t:Nat)(l:List Fr):GS:=⟨g.dead,fun x y=>if x=c∧y=t then l else g.op x y⟩
def GS.next(g:GS)(f:Fr):GS:=if g.err f≠0 then⟨true,fun _ _=>[]⟩else g.upd f.chan f.track (if f.fin&&f.last then []else g.op f.chan f.track++ [f])
def GS.out(g:GS)(f:Fr):Option As:=if g.err f=0∧f.fin=true∧f.last=true then some ⟨f.chan,f.track,zZ (g.op f.chan f.track++ [f])⟩else none
theorem jw(l:List Fr)(f:Fr):zZ (l++ [f])=xE (zZ l) f:=by simp[zZ]
theorem qz(a b:List Fr):zI (a++b)=zI a+zI b:=by
 induction a with
 | nil=>simp[zI]
 | cons f a ih=>simp only[vz,zI,ih];omega
theorem jO(a b:List Sg):yK (a++b)=yK a+yK b:=by
 induction a with
 | nil=>simp[yK]
 | cons f a ih=>simp only[vz,yK,ih];omega
theorem vt(l:List Sg)(s:Sg)(x:List UInt8):vZ (l++ [s]) x=l++ [⟨s.ty,s.load++x⟩]:=by
 induction l with
 | nil=>rfl
 | cons a l ih=>
  cases l with
  | nil=>rfl
  | cons b l=>simp only[vz]at ih ⊢;rw[vZ,ih]
theorem jP:∀(l:List Sg) (x:List UInt8),(vZ l x).length=l.length
 | [],_=>rfl
 | [s],x=>rfl
 | s::t::r,x=>by simp only[vZ,Vx,jP (t::r) x]
theorem kB:∀(l:List Sg) (x:List UInt8),l≠ []→yK (vZ l x)=yK l+x.length
 | [],_,h=>absurd rfl h
 | [s],x,_=>by simp[vZ,yK]
 | s::t::r,x,_=>by simp only[vZ,yK];have:=kB (t::r) x Wz;simp only[yK]at this;omega
theorem Y9(l:List Sg)(f:Fr):yK (xE l f)≤yK l+f.load.length:=by
 rw[xE];split
 ·rw[kB _ _ Wz,jO];simp[yK]
 cases l with
 | nil=>simp[vZ,yK]
 | cons a r=>rw[kB _ _ Wz];omega
theorem vu(l:List Fr):yK (zZ l)≤zI l:=by
 have:∀(l:List Fr) (s:List Sg),yK (l.foldl xE s)≤yK s+zI l:=by
  intro l
  induction l with
  | nil=>intro s;simp[zI]
  | cons f r ih=>
   intro s;have:=ih (xE s f);have h2:=Y9 s f;simp only[ky,zI]at this ⊢;omega
 simpa[zZ,yK]using this l []
structure Goes(l:List Fr):Prop where
 first:∀f,l.head?=some f→f.beg=true
 len:zI l≤16384
 few:∀y,l.getLast?=some y→y.ty≤3∧(zZ l).length≤y.ty+1
structure GS.Inv(g:GS):Prop where
 goes:∀c t,Goes (g.op c t)
 deadE:g.dead=true→∀c t,g.op c t=[]
 key:∀c t,g.op c t≠ []→c<65536∧t≤1
theorem GS.inv_new:GS.new.Inv:=⟨fun _ _=>⟨fun f h=>(by cases h),by simp[GS.new,zI],fun f h=>(by cases h)⟩,fun _ _ _=>rfl,fun _ _ h=>absurd rfl h⟩
theorem Xa{l:List Fr}(h:Goes l)(hne:l≠ []):zZ l≠ []:=by
 exact Z2o_
theorem GS.err_cases(g:GS)(f:Fr):g.err f=9∧g.dead=true∨g.dead=false∧(g.err f=60∧f.ok=false∨f.ok=true∧(g.err f=70∧fitsB (g.op f.chan f.track) f=false∨fitsB (g.op f.chan f.track) f=true∧
  (g.err f=3∧16384<zI (g.op f.chan f.track)+f.load.length∨g.err f=0∧zI (g.op f.chan f.track)+f.load.length≤16384))):=by
 unfold GS.err
 cases g.dead
 ·cases f.ok
  ·simp
  cases fitsB (g.op f.chan f.track) f
  ·simp
  by_cases h:16384<zI (g.op f.chan f.track)+f.load.length
  ·simp[h]
  simp[h];omega
 simp
theorem kC{l:List Fr}{f:Fr}(h:fitsB l f=true):f.track≤1:=by
 unfold fitsB at h;split at h
 ·cases h
 omega
theorem Zj{f:Fr}(h:fitsB [] f=true):f.first=true∧f.beg=true∧f.ty=f.track:=by
 unfold fitsB at h;split at h
 ·cases h
 simp at h;exact⟨h.1.1.1,h.1.1.2,h.1.2⟩
theorem Goes.snoc{l:List Fr}{f:Fr}(h:Goes l)(bJ:f.ok=true)(hf:fitsB l f=true)(hl:zI l+f.load.length≤16384):Goes (l++ [f]):=by
 refine⟨fun x hx=>?_,by rw[qz];simpa[zI]using hl,fun y hy=>?_⟩
 ·cases l with
  | nil=>simp at hx;subst hx;exact(Zj hf).2.1
  | cons a r=>exact h.first x hx
 rw[List.getLast?_append]at hy;simp at hy;subst hy;have mr:f.ty≤3:=by simp[Fr.ok]at bJ;omega
 refine⟨mr,?_⟩;rw[jw,xE,jP];unfold fitsB at hf;split at hf
 ·cases hf
 split at hf
 ·rename_i hn
  have:l=[]:=by simpa using hn
  subst this;simp at hf;simp[zZ,hf.1.1.2]
 rename_i x hx
 have hdc:=h.few x hx;split at hf
 ·simp at hf;rw[if_pos hf.1.1];simp;omega
 simp at hf;rw[if_neg (by simp[hf.1.1.1])];omega
theorem Goes.most{l:List Fr}(h:Goes l):(zZ l).length≤4:=by
 rcases hl:l.getLast? with _|y
 ·have:l=[]:=by simpa using hl
  subst this;simp[zZ]
 have:=h.few y hl;omega
theorem GS.Inv.next{g:GS}(h:g.Inv){f:Fr}(hw:f.wf):(g.next f).Inv:=by
 have rK:(⟨true,fun _ _=>[]⟩:GS).Inv:=⟨fun _ _=>⟨fun f h=>(by cases h),by simp[zI],fun f h=>(by cases h)⟩,fun _ _ _=>rfl,fun _ _ h=>absurd rfl h⟩;unfold GS.next;rcases g.err_cases f with⟨e,hd⟩|⟨hd,⟨e,_⟩|⟨bJ,⟨e,_⟩|⟨ie,⟨e,_⟩|⟨e,hl⟩⟩⟩⟩
 ·rw[if_pos Wq];exact rK
 ·rw[if_pos Wq];exact rK
 ·rw[if_pos Wq];exact rK
 ·rw[if_pos Wq];exact rK
 rw[if_neg Wq];refine⟨fun c t=>?_,fun ml=>?_,fun c t hne=>?_⟩
 ·unfold GS.upd;simp only;split
  ·split
   ·exact⟨fun f h=>(by cases h),by simp[zI],fun f h=>(by cases h)⟩
   exact(h.goes _ _).snoc bJ ie hl
  exact h.goes c t
 ·have:g.dead=true:=ml;rw[hd]at this;cases this
 unfold GS.upd at hne;simp only at hne;split at hne
 ·rename_i hk
  rw[hk.1,hk.2];exact⟨hw.2.2,kC ie⟩
 exact h.key c t hne
theorem JE(l:List Sg)(f:Fr)(h:f.beg=true):xE l f=l++ [⟨f.ty,f.load⟩]:=by
 rw[xE,if_pos h,vt,v1]
theorem Ky(l:List Sg)(s:Sg)(f:Fr)(h:f.beg=false):xE (l++ [s]) f=l++ [⟨s.ty,s.load++f.load⟩]:=by
 rw[xE,h,if_neg Wz,vt]
theorem zb8(most k:Nat)(f:Fr)(s:List UInt8):cutS most k f s≠ []:=by
 cases k with
 | zero=>simp[cutS]
 | succ k=>rw[cutS];split<;>simp
theorem Xb(most:Nat):∀(k:Nat) (f:Fr) (s:List UInt8),zI (cutS most k f s)=s.length
 | 0,f,s=>by simp[cutS,zI]
 | k+1,f,s=>by
  rw[cutS];split
  ·simp[zI]
  rw[zI,Xb most k];simp;omega
theorem Xc{most:Nat}(h1:1≤most):∀(n k j:Nat) (f:Fr) (s:List UInt8),s.length≤n→s.length≤k→s.length≤j→cutS most k f s=cutS most j f s
 | n,0,0,f,s,_,_,_=>rfl
 | n,0,j+1,f,s,_,hk,_=>by rw[cutS,cutS,if_pos Wq]
 | n,k+1,0,f,s,_,_,hj=>by rw[cutS,cutS,if_pos Wq]
 | n,k+1,j+1,f,s,hn,hk,hj=>by
  rw[cutS,cutS];split
  ·rfl
  rename_i hm
  cases n with
  | zero=>omega
  | succ n=>rw[Xc h1 n k j _ (s.drop most) Hq Hq Hq]
def cutN(most:Nat)(f:Fr)(s:List UInt8):List Fr:=cutS most s.length f s
theorem kO{most:Nat}{f:Fr}{s:List UInt8}(h:s.length≤most):cutN most f s=[⟨f.first,f.last,f.beg,true,f.ty,f.track,f.chan,s⟩]:=by
 unfold cutN
 cases s with
 | nil=>rfl
 | cons x s=>rw[Vx,cutS,if_pos h]
theorem kP{most:Nat}(h1:1≤most){f:Fr}{s:List UInt8}(h:most<s.length):cutN most f s=⟨f.first,f.last,f.beg,false,f.ty,f.track,f.chan,s.take most⟩::cutN most ⟨f.first,f.last,false,false,f.ty,f.track,f.chan,[]⟩ (s.drop most):=by
 unfold cutN
 cases s with
 | nil=>simp at h
 | cons x s=>
  rw[Vx,cutS,if_neg Nz,Xc h1 s.length s.length _ _ _ Hq Hq (Q1 _)]
theorem QT(most:Nat)(h1:1≤most):∀(n:Nat) (f:Fr) (s:List UInt8),s.length≤n→(cutN most f s).length≤s.length+1
 | 0,f,s,h=>by rw[kO Wq];simp
 | n+1,f,s,h=>by
  by_cases hm:s.length≤most
  ·rw[kO hm];simp
  rw[kP h1 Wq];have:=QT most h1 n ⟨f.first,f.last,false,false,f.ty,f.track,f.chan,[]⟩ (s.drop most) Hq;simp at this ⊢;omega
theorem Zk(most chan track n i:Nat)(s:Sg)(r:List Sg):cutL most chan track n i (s::r)=cutN most ⟨decide (i=0),decide (i+1=n),true,false,s.ty,track,chan,[]⟩ s.load++cutL most chan track n (i+1) r:=rfl
theorem YH(most chan track n:Nat)(h1:1≤most):∀(l:List Sg) (i:Nat),(cutL most chan track n i l).length≤yK l+l.length
 | [],_=>by simp[cutL]
 | s::r,i=>by
  have a:=QT most h1 s.load.length ⟨decide (i=0),decide (i+1=n),true,false,s.ty,track,chan,[]⟩ s.load (Q1 _);have b:=YH most chan track n h1 r (i+1);rw[Zk];simp only[KS,yK,Vx];omega
theorem Z5:∀(l:List Sg) (m:Nat) (prev:Option Nat),xn m prev l=true→l.length+(match prev with|none=>0|some p=>min (p+1) 4)≤4
 | [],m,prev,h=>by cases prev<;>simp<;>omega
 | s::r,m,prev,h=>by
  simp only[xn,Bool.and_eq_true,decide_eq_true_eq]at h;obtain⟨⟨⟨h1,h2⟩,h3⟩,h4⟩:=h;have:=Z5 r _ _ h4;simp only at this
  cases prev with
  | none=>simp;omega
  | some p=>simp at h2 ⊢;omega
theorem Z6:∀(l:List Sg) (m:Nat) (prev:Option Nat),xn m prev l=true→l≠ []→m+yK l≤16384
 | [],m,prev,h,hne=>absurd rfl hne
 | s::r,m,prev,h,_=>by
  simp only[xn,Bool.and_eq_true,decide_eq_true_eq]at h;obtain⟨⟨⟨h1,h2⟩,h3⟩,h4⟩:=h
  cases r with
  | nil=>simp[yK];omega
  | cons t r=>
   have:=Z6 (t::r) _ _ h4 Wz;rw[yK];omega
theorem v8{a:As}(h:asOk a=true):a.segs.length≤4∧yK a.segs≤16384∧a.segs≠ []:=by
 unfold asOk at h;rw[Bool.and_eq_true]at h;have hne:a.segs≠ []:=fun e=>by have:=h.2;simp[jN,e]at this
 have h1:=Z5 _ _ _ h.1;have h2:=Z6 _ _ _ h.1 hne;simp at h1 h2;exact⟨h1,h2,hne⟩
theorem Zl{most:Nat}(h1:1≤most){a:As}(h:asOk a=true):(vr most a).length≤16388:=by
 have:=YH most a.chan a.track a.segs.length h1 a.segs 0;obtain⟨h2,h3,_⟩:=v8 h;unfold vr;omega
theorem kQ{l:List Sg}{s:Sg}(h:s∈l):s.load.length≤yK l:=by
 induction l with
 | nil=>cases h
 | cons a r ih=>
  rcases j1.1 h with rfl|h
  ·simp[yK]
  have:=ih h;simp[yK];omega
end Go.PH
end
section
namespace Go.PH
theorem ZM(a b:List UInt8):xe (a++b) false (a.length:Int)=(a,b,false):=by
 rw[xp Wz];simp
theorem ve(w:Nat)(hw:qK (w:Int)=true)(n:Nat)(rest:List UInt8):mnum (be w n++rest) false (w:Int)=(n % 256 ^ w,rest,false):=by
 have h:=ZM (be w n) rest;rw[zr]at h;rw[qG hw,h,vx]
end Go.PH
end
namespace Go.PH
open Go.RowKit Go.Proofs Go.Proofs.Tryz
variable {b : List UInt8} {k : Nat}
def rawV:Value→Option (DataW Value×List MemPlace):=fun v=>some (.held v,[])
end Go.PH
section
namespace Go.PH
open Go.RowKit
section
variable {α : Type} {f : α → List Value} {sz : Nat}
structure RecShape(f:α→List Value)(sz:Nat):Prop where
 len:∀a,(f a).length=sz
 one:∀a,∀u∈f a,u.oneCell'=true
 pos:0<sz
def rowC(f:α→List Value)(l:List α):List Value:=l.flatMap f
theorem qW(a:α)(l:List α):rowC f (a::l)=f a++rowC f l:=rfl
theorem zaH:rowC f ([]:List α)=[]:=rfl
theorem ql(a b:List α):rowC f (a++b)=rowC f a++rowC f b:=by simp[rowC]
theorem jy(h:RecShape f sz)(l:List α):(rowC f l).length=l.length*sz:=by
 induction l with
 | nil=>simp[rowC]
 | cons a l ih=>rw[qW,KS,ih,h.len,Vx,VB];omega
theorem YJ(h:RecShape f sz):∀(l:List α) (k:Nat) (hk:k<l.length) (j:Nat),j<sz→(rowC f l)[k*sz+j]?=(f l[k])[j]?
 | a::l,0,_,j,hj=>by
  rw[qW,y3,q3,List.getElem?_append_left (by rw[h.len];exact hj)];rfl
 | a::l,k+1,hk,j,hj=>by
  have:=YJ h l k (by simpa using hk) j hj;rw[qW,List.getElem?_append_right (by rw[h.len,VB];omega),h.len,VB,show k*sz+1*sz+j-sz=k*sz+j by omega,this];rfl
variable {w w' : World} {B n c base e : Nat} {A : Option Addr} {l : List α}
theorem xr(h:RecShape f sz)(hr:Rd w B sz A n c (rowC f l)):l.length=n:=by
 have:=hr.len;rw[jy h]at this;exact Nat.eq_of_mul_eq_mul_right h.pos this
theorem qm(h:RecShape f sz)(hr:Rd w B sz A n c (rowC f l)){k:Nat}(hk:k<n):∃b off,A=some ⟨b,off,none⟩∧b<B∧∃hl:k<l.length,∀j u,(f l[k])[j]?=some u→w.cell? ⟨b,off+k*sz+j,none⟩=some u:=by
 obtain⟨b,off,e,hb,hc⟩:=hr.at_ Wq;have hl:=xr h hr;refine⟨b,off,e,hb,by omega,fun j u hu=>?_⟩;have hj:j<sz:=by have:=(y4.1 hu).1;rwa[h.len]at this
 have:=hc (k*sz+j) u ((YJ h l k Wq j hj).trans hu);rwa[←kI]at this
theorem YK(h:RecShape f sz)(ho:Own w base e sz A n c (rowC f l)):l.length=n:=xr h ho.rd
theorem jR{P:Program}{W:World}{o:Oper}{a:Act}{K:Act→World→Prop}{Q:Exit→Act→World→Prop}{s x:Operand}{t t2 e2 bytes g:Nat}{z:Value}(h:RecShape f sz)(hT:SlT P t e sz bytes z)(h2:P.underlying t2=some (.slice e2))
  (ho:o.op= .call {callee:=.builtin .append,args:=#[s,x],argTypes:=#[t,t2]}) (hs:a.eval s= .slice A n c) (hx:a.eval x= .slice (some ⟨g,0,none⟩) 1 1) (hg:g=W.heap.size) {cs:Array Value}
  (r:α) (fZ:cs.toList=f r) (Hl:Own W base e sz A n c (rowC f l)) (hn:(n+1)*bytes≤140737488355328) (eS:n≤1000000000) (Hf:base≤W.heap.size)
  (hk:∀A2 c2 w',Own w' base e sz A2 (n+1) c2 (rowC f (l++ [r]))→W.grownBy w' (blk A)→(blk A2=blk A∨∀g,blk A2=some g→W.heap.size≤g)→Below base W w'→K (a.put o.dst (.slice A2 (n+1) c2)) w'):
  o.wp P a (W.alloc (.cells cs e)) K Q:=by
 subst hg;have DM:cs.size=1*sz:=by rw[q5,←h.len r,←fZ];simp
 have b7:=yq (w:=W) base cs e 1 Hf WX DM h.pos;have bW:Own (W.alloc (.cells cs e)) base e sz A n c (rowC f l):=Hl.alloc _;refine jL (ops:=#[]) hT h2 ho hs hx bW b7.rd (fun u hu=>h.one r u (by rw[←fZ];exact hu)) hn UJ Hq fun A2 c2 w' a1 a2 a3=>?_
 have e1:rowC f l++cs.toList=rowC f (l++ [r]):=by rw[ql,fZ];simp[rowC]
 rw[e1]at a1;have Hc:Below base W (W.alloc (.cells cs e)):=(K2 _ _).alloc Hf _;have si:W.grownBy w' (blk A):=⟨a2.os,a2.tape,a2.output,q4 Hc.size a2.size,fun k hk hne=>(a2.block k Hq hne).trans (((K2 W.heap.size W).alloc (Q1 _) _).block k hk)⟩;refine hk A2 c2 w' a1 si ?_ ((K2 _ _).grown si Hf (fun g hg=>(Hl.blk_lt hg).1));exact Z5u_
theorem jS{P:Program}{W:World}{ops:Array Oper}{rest:List Oper}{o:Oper}{a:Act}{Q:Exit→Act→World→Prop}{s x:Operand}{t t2 e2 bytes g:Nat}{z:Value}(h:RecShape f sz)(hT:SlT P t e sz bytes z)(h2:P.underlying t2=some (.slice e2))(hw:Region.wanted o (yielded ops a.tmps)=true)
  (ho:o.op= .call {callee:=.builtin .append,args:=#[s,x],argTypes:=#[t,t2]}) (hs:a.eval s= .slice A n c) (hx:a.eval x= .slice (some ⟨g,0,none⟩) 1 1) (hg:g=W.heap.size) {cs:Array Value}
  (r:α) (fZ:cs.toList=f r) (Hl:Own W base e sz A n c (rowC f l)) (hn:(n+1)*bytes≤140737488355328) (eS:n≤1000000000) (Hf:base≤W.heap.size)
  (hk:∀A2 c2 w',Own w' base e sz A2 (n+1) c2 (rowC f (l++ [r]))→W.grownBy w' (blk A)→(blk A2=blk A∨∀g,blk A2=some g→W.heap.size≤g)→Below base W w'→wpList P ops Q rest (a.put o.dst (.slice A2 (n+1) c2)) w'):
  wpList P ops Q (o::rest) a (W.alloc (.cells cs e)):=by
 refine BigFrame.wpList_want hw fun K hK=>?_
 exact jR h hT h2 ho hs hx hg r fZ Hl hn eS Hf fun A2 c2 w' a1 a2 a3 a4=>hK _ _ (hk A2 c2 w' a1 a2 a3 a4)
end
end Go.PH
end
section
namespace Go.PH
open Go.RowKit
structure Hd where
 A:Option Addr
 n:Nat
 c:Nat
def Hd.v(h:Hd):Value:=.slice h.A h.n h.c
def Quiet(w w':World):Prop:=w'.os=w.os∧w'.tape=w.tape∧w'.output=w.output
theorem Quiet.refl(w:World):Quiet w w:=⟨rfl,rfl,rfl⟩
theorem Quiet.trans{a b c:World}(h:Quiet a b)(k:Quiet b c):Quiet a c:=⟨k.1.trans h.1,k.2.1.trans h.2.1,k.2.2.trans h.2.2⟩
theorem Quiet.below{B:Nat}{w w':World}(h:Below B w w'):Quiet w w':=⟨h.os,h.tape,h.output⟩
theorem Quiet.grown{w w':World}{r:Option Nat}(h:w.grownBy w' r):Quiet w w':=⟨h.os,h.tape,h.output⟩
def KeepF(F:Nat→Prop)(w w':World):Prop:=w.heap.size≤w'.heap.size∧(∀g,g<w.heap.size→¬F g→w'.heap[g]?=w.heap[g]?)∧Quiet w w'
theorem KeepF.size{F:Nat→Prop}{w w':World}(h:KeepF F w w'):w.heap.size≤w'.heap.size:=h.1
theorem KeepF.refl(F:Nat→Prop)(w:World):KeepF F w w:=⟨Q1 _,fun _ _ _=>rfl,.refl w⟩
theorem KeepF.trans{F F':Nat→Prop}{w w' w2:World}(h:KeepF F w w')(h':KeepF F' w' w2)(hF:∀g,F' g→F g∨w.heap.size≤g):KeepF F w w2:=
 ⟨q4 h.1 h'.1,fun g hg hn=>(h'.2.1 g (k9 hg h.1) (fun e=>by rcases hF g e with e|e;exact hn e;omega)).trans (h.2.1 g hg hn),h.2.2.trans h'.2.2⟩
theorem KeepF.below{F:Nat→Prop}{w w':World}(h:Below w.heap.size w w'):KeepF F w w':=⟨h.size,fun g hg _=>h.block g hg,.below h⟩
theorem KeepF.grown{F:Nat→Prop}{w w':World}{r:Option Nat}(h:w.grownBy w' r)(hr:∀g,r=some g→F g∨w.heap.size≤g):KeepF F w w':=
 ⟨h.size,fun g hg hn=>h.block g hg (fun e=>by rcases hr g e.symm with e|e;exact hn e;omega),.grown h⟩
theorem KeepF.toBelow{F:Nat→Prop}{w w':World}{B:Nat}(h:KeepF F w w')(hB:B≤w.heap.size)(hF:∀g,F g→B≤g):Below B w w':=
 ⟨h.2.2.1,h.2.2.2.1,h.2.2.2.2,h.1,fun k hk=>h.2.1 k Wq (fun e=>by have:=hF k e;omega)⟩
theorem KeepF.weak{F G:Nat→Prop}{w w':World}(h:KeepF F w w')(hF:∀g,F g→G g∨w.heap.size≤g):KeepF G w w':=
 ⟨h.1,fun g hg hn=>h.2.1 g hg (fun e=>by rcases hF g e with e|e;exact hn e;omega),h.2.2⟩
theorem zaF{F G:Nat→Prop}{w w':World}(h:KeepF G w w')(hd:∀g,F g→¬G g)(hl:∀g,F g→g<w.heap.size):∀g,F g→w'.heap[g]?=w.heap[g]?:=fun g hg=>h.2.1 g (hl g hg) (hd g hg)
theorem yj{w w':World}{H:Type}{P:Program}{k:TypeId}{R:Value→Option (DataW H×List MemPlace)}{b n:Nat}{D:DataW H}(h:w.ownsMap P k R b n D)(hb:w'.heap[b]?=w.heap[b]?):w'.ownsMap P k R b n D:=by
 obtain⟨es,clock,h1,h2,h3,h4⟩:=h;exact⟨es,clock,hb.trans h1,h2,h3,h4⟩
theorem Zb{w w':World}{base e size n c:Nat}{A:Option Addr}{xs:List Value}(h:Own w base e size A n c xs)(hb:∀g,blk A=some g→w'.heap[g]?=w.heap[g]?):Own w' base e size A n c xs:=by
 unfold Own q7 at h ⊢;obtain⟨hl,h1⟩:=h;refine⟨hl,h1.imp id ?_⟩;rintro⟨g,cap,cur,hv,dd,hh,hr⟩;exact⟨g,cap,cur,hv,dd,(hb g (by injection hv with e;rw[e];rfl)).trans hh,hr⟩
theorem zV{w w':World}{F:Nat→Prop}{g t:Nat}{cs:Array Value}(h:Box w g t cs)(hk:KeepF F w w')(hF:¬F g):Box w' g t cs:=(hk.2.1 g h.lt hF).trans h
theorem zy{w w':World}{F:Nat→Prop}{base e size n c:Nat}{A:Option Addr}{xs:List Value}(h:Own w base e size A n c xs)(hk:KeepF F w w')(hF:∀g,blk A=some g→¬F g):Own w' base e size A n c xs:=
 Zb h fun g hg=>hk.2.1 g (h.blk_lt hg).2 (hF g hg)
end Go.PH
end
section
namespace Go.PH
open Go.RowKit
variable {α : Type} {f : α → List Value} {sz : Nat}
theorem zcY{C:α→Prop}(h:RecShape f sz){L:List α}:∀{xs:List Value},xs.length=L.length*sz→(∀i (hi:i<L.length),(xs.drop (i*sz)).take sz=f L[i]∧C L[i])→xs=rowC f L:=by
 induction L with
 | nil=>intro xs hx _;rw[zaH];simpa using hx
 | cons a L ih=>
  intro xs hx hr;have h0:=(hr 0 Wz).1;simp only[y3,y5,List.getElem_cons_zero]at h0;have pp:xs.length=L.length*sz+sz:=by rw[hx,Vx,VB,q5]
  rw[qW,←h0,←ih (xs:=xs.drop sz) mz (fun i hi=>by
   have:=hr (i+1) Hq;rw[List.drop_drop,show sz+i*sz=(i+1)*sz by rw[VB,q5,Nat.add_comm]]
   simpa using this)]
  rw[List.take_append_drop]
theorem zdC{C:α→Prop}(h:RecShape f sz){A:Option Addr}{n c B:Nat}{xs:List Value}{L:List α}{w:World}(hb:Rd w B sz A n c xs)(hn:L.length=n)(hr:∀i (hi:i<L.length),(xs.drop (i*sz)).take sz=f L[i]∧C L[i]):
  Rd w B sz A n c (rowC f L)∧∀a∈L,C a:=by
 have hx:=hb.len;subst hn;have e:=zcY h hx hr;subst e;refine⟨hb,fun a ha=>?_⟩;obtain⟨i,hi,rfl⟩:=List.getElem_of_mem ha;exact(hr i hi).2
end Go.PH
end
section
namespace Go.PH
open Go.RowKit
section
variable {α : Type} {f : α → List Value} {sz : Nat} {P : Program} {w w' : World} {base e n c g m t bytes : Nat} {A : Option Addr} {l : List α} {z : Value}
theorem QX(ho:Own w base e sz (some ⟨g,0,none⟩) n c (rowC f l)):∃cur,base≤g∧w.heap[g]?=some (.cells cur e (0,0))∧n≤c∧c≤maxLen∧cur.size=c*sz∧cur.toList.take (n*sz)=rowC f l:=by
 rcases ho.2 with⟨hv,_⟩|⟨g',cap,cur,hv,h1,h2,h3,h4,h5,h6⟩
 ·injection hv with h1;cases h1
 injection hv with e1 e2 e3
 injection e1 with e1
 injection e1 with e1
 subst e1 e3;exact⟨cur,h1,h2,h3,h4,h5,h6⟩
theorem QY(ho:Own w base e sz A n c (rowC f l))(hn:0<n):∃g,A=some ⟨g,0,none⟩∧base≤g∧g<w.heap.size:=by
 rcases ho.2 with⟨hv,rfl⟩|⟨g,cap,cur,hv,h1,h2,_⟩
 ·omega
 injection hv with e1 e2 e3
 exact⟨g,e1,h1,(Array.getElem?_eq_some_iff.1 h2).1⟩
theorem QZ(h:RecShape f sz)(r:α):∀(l:List α) (k:Nat),k<l.length→rowC f (l.set k r)=rowC f (l.take k)++f r++rowC f (l.drop (k+1))
 | a::l,0,_=>by simp[rowC]
 | a::l,k+1,hk=>by
  rw[List.set_cons_succ,qW,QZ h r l k (by simpa using hk),List.take_succ_cons,qW,List.drop_succ_cons];simp
theorem JH(f:α→List Value)(l:List α)(k:Nat)(hk:k<l.length):rowC f l=rowC f (l.take k)++f l[k]++rowC f (l.drop (k+1)):=by
 have e:l=l.take k++ [l[k]]++l.drop (k+1):=by simp
 have e2:rowC f l=rowC f (l.take k++ [l[k]]++l.drop (k+1)):=by rw[←e]
 rw[e2,ql,ql];simp[rowC]
theorem zcc(h:RecShape f sz)(ho:Own w base e sz (some ⟨g,0,none⟩) n c (rowC f l)){cur:Array Value}(hb:w.heap[g]?=some (.cells cur e (0,0))){k i:Nat}{vs:List Value}{r:α}(hk:k<n)(bK:k<l.length)
  (hf:f r=(f l[k]).take i++vs++(f l[k]).drop (i+vs.length)) (hi:i+vs.length≤sz) (hB:w'.heap[g]?=some (.cells (cur.toList.take (k*sz+i)++vs++cur.toList.drop (k*sz+i+vs.length)).toArray e (0,0))):
  Own w' base e sz (some ⟨g,0,none⟩) n c (rowC f (l.set k r)):=by
 obtain⟨cur',eP,mI,iC,rR,fZ,ht⟩:=QX ho;rw[hb]at mI;injection mI with mI
 injection mI with mI
 subst mI;have hn:=YK h ho;have tf:k*sz+sz≤n*sz:=by have:=K1 sz (show k+1≤n by omega);rw[VB,q5]at this;exact this
 have Wi:n*sz≤c*sz:=K1 _ iC;refine⟨by rw[jy h,List.length_set,hn],.inr ⟨g,c,_,rfl,eP,hB,iC,rR,?_,?_⟩⟩
 ·simp only[k6,KS,K0,q9,Array.length_toList,fZ];omega
 have hX:(cur.toList.take (k*sz+i)++vs++cur.toList.drop (k*sz+i+vs.length)).take (n*sz)=(rowC f l).take (k*sz+i)++vs++(rowC f l).drop (k*sz+i+vs.length):=by
  rw[←ht,j2,j2,j8,j8,KS,K0,Array.length_toList,fZ,yA];have e1:min (n*sz) (k*sz+i)=k*sz+i:=by omega
  have e2:min (k*sz+i) (n*sz)=k*sz+i:=by omega
  have e3:min (k*sz+i) (c*sz)=k*sz+i:=by omega
  rw[e1,e2,e3,Vy (show vs.length≤n*sz-(k*sz+i) by omega)];try congr 2
 have im:(rowC f (l.take k)).length=k*sz:=by rw[jy h,K0,q8 Wq]
 have hS:=JH f l k bK;have dm:=h.len l[k];rw[show(cur.toList.take (k*sz+i)++vs++cur.toList.drop (k*sz+i+vs.length)).toArray.toList=_ from rfl,hX,QZ h r l k bK,hf,hS,y2 (rowC f (l.take k)) (f l[k])]
 have t1:(rowC f (l.take k)++(f l[k]++rowC f (l.drop (k+1)))).take (k*sz+i)=rowC f (l.take k)++(f l[k]).take i:=by
  rw[j2,im,k0,Vy Wq,q1 Wq]
 have t2:(rowC f (l.take k)++(f l[k]++rowC f (l.drop (k+1)))).drop (k*sz+i+vs.length)=(f l[k]).drop (i+vs.length)++rowC f (l.drop (k+1)):=by
  rw[y6,im,y7 Wq,kI,k0,v1,y8 Wq]
 rw[t1,t2];simp
theorem Xh{o:Oper}{a:Act}{K:Act→World→Prop}{Q:Exit→Act→World→Prop}{x y:Operand}{ty:TypeId}{v:Value}{k i j:Nat}{vs:List Value}(h:RecShape f sz)(ho:o.op= .store ty x y)(hx:a.eval x= .pointer (some ⟨g,j,none⟩))(hy:a.eval y=v)
  (Hl:Own w base e sz (some ⟨g,0,none⟩) n c (rowC f l)) (hk:k<n) (bK:k<l.length) (r:α) (hv:v.cells.toList=vs) (hi:(P.info? ty).map (·.size)=some vs.length) (hf:f r=(f l[k]).take i++vs++(f l[k]).drop (i+vs.length)) (BE:i+vs.length≤sz) (hj:j=k*sz+i)
  (hc:∀w',Own w' base e sz (some ⟨g,0,none⟩) n c (rowC f (l.set k r))→w.grownBy w' (some g)→w'.heap.size=w.heap.size→K (a.put o.dst undef) w'):o.wp P a w K Q:=by
 subst hj;obtain⟨cur,eP,hb,iC,rR,fZ,ht⟩:=QX Hl;have tf:k*sz+sz≤n*sz:=by have:=K1 sz (show k+1≤n by omega);rw[VB,q5]at this;exact this
 have Wi:n*sz≤c*sz:=K1 _ iC;have h1:∀u∈vs,u.oneCell'=true:=fun u hu=>h.one r u (by rw[hf];simp[hu])
 exact zK ho hx hy (show Box w g e cur from hb) hv hi Wq h1 _ rfl fun w' b1 b2 b3=>hc w' (zcc h Hl hb hk bK hf BE b1) b2 b3
theorem zcd{ops:Array Oper}{rest:List Oper}{o:Oper}{a:Act}{Q:Exit→Act→World→Prop}{size:Nat}{x:Operand}{lo hi mx:Option Operand}(hT:SlT P t e size bytes z)(hw:Region.wanted o (yielded ops a.tmps)=true)
  (ho:o.op= .slice t x lo hi mx) (hx:a.eval x= .slice A n c) (gS:c≤maxLen) (iC:n≤c) (l h m:Nat) (fC:Bd (lo.map a.eval) 0 l) (mW:Bd (hi.map a.eval) n h) (nl:Bd (mx.map a.eval) c m) (t9:mx.isSome=true→hi.isSome=true)
  (h1:l≤h) (h2:h≤m) (h3:m≤c) (h4:h≤n)
  (hk:wpList P ops Q rest (a.put o.dst (.slice (cutA A size l m) (h-l) (m-l))) w):
  wpList P ops Q (o::rest) a w:=by
 refine BigFrame.wpList_want hw fun K hK=>?_
 have bv:=kT (A:=A) hT w gS iC l h m fC mW nl (by simpa using t9) h1 h2 h3 h4;unfold Oper.wp execOp;simp only[ho,hx,Sem.run_bind,Sem.run_pure,Result.andThen_ok,bv];exact hK _ _ hk
theorem JI{ops:Array Oper}{Q:Exit→Act→World→Prop}{rest:List Oper}{a:Act}{dst:Option Tmp}{ty:TypeId}{pos:String}{after:Array Edge}{guard:Option (Nat×Bool)}{xs:Array Operand}{ts:Array TypeId}(h:Hold (wpList P ops Q (⟨dst,.call ⟨.builtin .clear,xs,ts⟩,ty,pos,after,guard⟩::rest) a w)):
  wpList P ops Q (⟨dst,.call ⟨.builtin .clear,xs,ts⟩,ty,pos,after,guard⟩::rest) a w:=h
end
end Go.PH
end
section
namespace Go.PH
open Go.RowKit
section
variable {P : Program} {ops : Array Oper} {Q : Exit → Act → World → Prop} {S S2 : World → Prop} {fuel : Nat} {listed : Array Bool} {a : Act} {w : World}
theorem zt(S:World→Prop){id:Nat}(hm:P.follows .mixedOrders=true)(h:wpAnyH P .any ops (NoPanic Q) S ops.size (Array.replicate ops.size false) a w.drew):(Code.region id ops true).wp P Q a w:=
 wp_region_noPanic (wp_region_held hm h)
theorem ze(i:Nat){o:Oper}{v:Value}(hi:ops[i]?=some o)(hs:Region.noSelect ops=true)(hf:Region.free .any ops listed i=true)(hr:(Region.ready .any ops listed).contains i=true)
  (hS:S w) (hw:Region.wanted o (yielded ops a.tmps)=true) (hy:∀w,S w→(execOp a.eval o).run P w= .ok (.value v) w)
  (h:wpAnyH P .any ops (NoPanic Q) S fuel (listed.setIfInBounds i true) (a.put o.dst v) w):wpAnyH P .any ops (NoPanic Q) S (fuel+1) listed a w:=
 wpAnyH_take hi hs hf hr (fun _ _ _ h=>h) (.inl ⟨hw,hy⟩) hS h
theorem jT(i:Nat){o:Oper}(hi:ops[i]?=some o)(hs:Region.noSelect ops=true)(hf:Region.free .any ops listed i=true)(hr:(Region.ready .any ops listed).contains i=true)
  (hS:S w) (hw:Region.wanted o (yielded ops a.tmps)=false)
  (h:wpAnyH P .any ops (NoPanic Q) S fuel (listed.setIfInBounds i true) (a.put o.dst undef) w):wpAnyH P .any ops (NoPanic Q) S (fuel+1) listed a w:=
 wpAnyH_take hi hs hf hr (fun _ _ _ h=>h) (.inr ⟨hw,rfl⟩) hS h
theorem zj(i:Nat){o:Oper}(hi:ops[i]?=some o)(hr:Region.ready .any ops listed=[i])(hw:Region.wanted o (yielded ops a.tmps)=true)
  (h:∀K:Act→World→Prop,(∀a' w',S w'→wpAnyH P .any ops Q S fuel (listed.setIfInBounds i true) a' w'→K a' w')→o.wp P a w K Q):wpAnyH P .any ops Q S (fuel+1) listed a w:=
 wpAnyH_all (rs:=[i]) hr Wz fun j hj=>by
  obtain rfl:j=i:=by simpa using hj
  exact Z6c_
theorem zD(hr:Region.ready .any ops listed=[])(h:Q .normal a w):wpAnyH P .any ops (NoPanic Q) S fuel listed a w:=wpAnyH_done (Q:=NoPanic Q) hr h _
end
section
variable {P : Program} {ops : Array Oper} {Q : Exit → Act → World → Prop} {S : World → Prop} {fuel : Nat} {listed : Array Bool} {a : Act} {w : World}
theorem rg_t(i:Nat){o:Oper}{v:Value}(hS:S w)(h:wpAnyH P .any ops (NoPanic Q) S fuel (listed.setIfInBounds i true) (a.put o.dst v) w)(hi:ops[i]?=some o:=by rfl)(hs:Region.noSelect ops=true:=by kernel_rfl)(hf:Region.free .any ops listed i=true:=by kernel_rfl)(hr:(Region.ready .any ops listed).contains i=true:=by kernel_rfl)
    (hw:Region.wanted o (yielded ops a.tmps)=true:=by rfl) (hy:∀w,S w→(execOp a.eval o).run P w= .ok (.value v) w:=by intro wS He;go_simp;(with_reducible rfl)):wpAnyH P .any ops (NoPanic Q) S (fuel+1) listed a w:=ze i hi hs hf hr hS hw hy h
end
end Go.PH
end
section
namespace Go.PH
open Go.RowKit
section
variable {P : Program} {ops : Array Oper} {Q : Exit → Act → World → Prop} {S S2 : World → Prop} {fuel : Nat} {listed : Array Bool} {a : Act} {w : World}
theorem xO(i j:Nat){o p:Oper}(hi:ops[i]?=some o)(hj:ops[j]?=some p)(hr:Region.ready .any ops listed=[i,j])(hw:Region.wanted o (yielded ops a.tmps)=true)(nu:Region.wanted p (yielded ops a.tmps)=true)
  (h:∀K:Act→World→Prop,(∀a' w',S w'→wpAnyH P .any ops Q S fuel (listed.setIfInBounds i true) a' w'→K a' w')→o.wp P a w K Q)
  (h':∀K:Act→World→Prop,(∀a' w',S w'→wpAnyH P .any ops Q S fuel (listed.setIfInBounds j true) a' w'→K a' w')→p.wp P a w K Q):wpAnyH P .any ops Q S (fuel+1) listed a w:=
 wpAnyH_all (rs:=[i,j]) hr Wz fun k hk=>by
  rcases(by simpa using hk:k=i∨k=j)with rfl|rfl
  ·exact Z6c_
  exact Z68_
end
section
variable {P : Program} {ops : Array Oper} {Q : Exit → Act → World → Prop} {S : World → Prop} {fuel : Nat} {listed : Array Bool} {a : Act} {w : World} {t e size bytes n c : Nat} {z : Value} {A : Option Addr}
theorem qH(i:Nat){o:Oper}{x:Operand}{lo hi mx:Option Operand}(hT:SlT P t e size bytes z)(hi':ops[i]?=some o)(hs:Region.noSelect ops=true)(hf:Region.free .any ops listed i=true)(hr:(Region.ready .any ops listed).contains i=true)
  (hS:S w) (hw:Region.wanted o (yielded ops a.tmps)=true) (ho:o.op= .slice t x lo hi mx) (hx:a.eval x= .slice A n c) (gS:c≤maxLen) (iC:n≤c) (l h m:Nat)
  (fC:Bd (lo.map a.eval) 0 l) (mW:Bd (hi.map a.eval) n h) (nl:Bd (mx.map a.eval) c m) (t9:mx.isSome=true→hi.isSome=true) (h1:l≤h) (h2:h≤m) (h3:m≤c) (h4:h≤n)
  (hk:wpAnyH P .any ops (NoPanic Q) S fuel (listed.setIfInBounds i true) (a.put o.dst (.slice (cutA A size l m) (h-l) (m-l))) w):wpAnyH P .any ops (NoPanic Q) S (fuel+1) listed a w:=
 ze i hi' hs hf hr hS hw (fun wS _=>by
  unfold execOp
  simp only[ho,hx,Sem.run_bind,Sem.run_pure,Result.andThen_ok,kT (A:=A) hT wS gS iC l h m fC mW nl (by simpa using t9) h1 h2 h3 h4]) hk
end
end Go.PH
end
section
namespace Go.PH
open Go.RowKit
variable {P : Program} {ops : Array Oper} {Q : Exit → Act → World → Prop} {S S2 : World → Prop} {fuel : Nat} {listed : Array Bool} {a : Act} {w : World}
theorem Jm(i j k:Nat){o p q:Oper}(hi:ops[i]?=some o)(hj:ops[j]?=some p)(hk:ops[k]?=some q)(hr:Region.ready .any ops listed=[i,j,k])(hw:Region.wanted o (yielded ops a.tmps)=true)(nu:Region.wanted p (yielded ops a.tmps)=true)(om:Region.wanted q (yielded ops a.tmps)=true)
  (h:∀K:Act→World→Prop,(∀a' w',S w'→wpAnyH P .any ops Q S fuel (listed.setIfInBounds i true) a' w'→K a' w')→o.wp P a w K Q)
  (h':∀K:Act→World→Prop,(∀a' w',S w'→wpAnyH P .any ops Q S fuel (listed.setIfInBounds j true) a' w'→K a' w')→p.wp P a w K Q)
  (h2:∀K:Act→World→Prop,(∀a' w',S w'→wpAnyH P .any ops Q S fuel (listed.setIfInBounds k true) a' w'→K a' w')→q.wp P a w K Q):wpAnyH P .any ops Q S (fuel+1) listed a w:=
 wpAnyH_all (rs:=[i,j,k]) hr Wz fun m hm=>by
  rcases(by simpa using hm:m=i∨m=j∨m=k)with rfl|rfl|rfl
  ·exact Z6c_
  ·exact Z68_
  unfold wpOp;rw[hk];simp only[om,if_true];exact .inl (h2 _ fun a' w' h1 h2=>⟨h1,h2⟩)
end Go.PH
end
section
namespace Go.PH
open Go.RowKit
section
variable {P : Program} {ops : Array Oper} {Q : Exit → Act → World → Prop} {S : World → Prop} {j fuel : Nat} {listed : Array Bool} {a : Act} {w : World}
def kz(P:Program)(ops:Array Oper)(Q:Exit→Act→World→Prop)(j:Nat)(S:World→Prop):Nat→Array Bool→Act→World→Prop
 | 0,listed,a,w=>Region.ready .any ops listed=[]∧Q .normal a w
 | fuel+1,listed,a,w=>(Region.ready .any ops listed=[]→Q .normal a w)∧∀i∈Region.ready .any ops listed,wpOp P ops Q i (fun a' w'=>(i≠j→S w')∧kz P ops Q j S fuel (listed.setIfInBounds i true) a' w') a w
theorem XV:∀(fuel:Nat) (listed:Array Bool) (a:Act) (w:World),kz P ops Q j S fuel listed a w→wpAny P .any ops Q fuel listed a w
 | 0,_,_,_,h=>h
 | fuel+1,_,_,_,h=>⟨h.1,fun i hi=>wpOp_mono (fun a' w' h'=>XV fuel _ a' w' h'.2) (h.2 i hi)⟩
theorem jd(j:Nat)(S:World→Prop){id:Nat}(hm:P.follows .mixedOrders=true)(h:kz P ops (NoPanic Q) j S ops.size (Array.replicate ops.size false) a w.drew):(Code.region id ops true).wp P Q a w:=
 wp_region_noPanic (wp_region_any hm (XV _ _ _ _ h))
def deps(ops:Array Oper)(i:Nat):List Nat:=(Q2 ops.size).foldl (fun C x=>match ops[x]? with
 | some o=>if o.after.any fun e=>Region.binds .any e&&(e.on==i||C.contains e.on)then x::C else C
 | none=>C) []
def zcN(ops:Array Oper)(i:Nat)(C:List Nat)(x:Nat):Bool:=match ops[x]? with
 | some o=>o.after.any fun e=>Region.binds .any e&&(e.on==i||C.contains e.on)
 | none=>false
def zdt(ops:Array Oper)(listed:Array Bool)(i j:Nat)(C:List Nat):Bool:=C.all (zcN ops i C)&&C.all (fun x=> !listed.getD x true)&&C.contains j
theorem Ke{i:Nat}{oi:Oper}{v:Value}{C:List Nat}(hi:ops[i]?=some oi)(L8:∀(j:Nat) (o:Oper) cs b,ops[j]?=some o→o.op≠ .select cs b)
  (hQ:∀c a w,Q (.panic c) (a.put oi.dst v) w→Q (.panic c) a w) (hW:∀x∈C,zcN ops i C x=true) (hj:j∈C):
  ∀(fuel:Nat) (listed:Array Bool) (a:Act) (w:World),(∀x∈C,listed.getD x true=false)→
   (∀j oj,ops[j]?=some oj→j≠i→listed.getD j true=false→(∀e∈oj.after,Region.binds .any e=true→e.on≠i)→oi.apart ops oj=true)→
   i∈Region.ready .any ops listed→YieldsIf P ops S oi v a→S w→
   kz P ops Q j S fuel (listed.setIfInBounds i true) (a.put oi.dst v) w→kz P ops Q j S (fuel+1) listed a w:=by
 have UK:∀{l:Array Bool} {x:Nat},l.getD x true=false→¬l.getD x false=true:=by
  intro l x h0 h1;rcases y9 x l.size with h'|h'
  ·simp[h']at h0 h1;rw[h0]at h1;cases h1
  simp[Array.getElem?_eq_none h']at h1
 intro fuel
 induction fuel with
 | zero=>
  intro listed a w hC tJ hr hy hS H;refine⟨fun h=>(by rw[h]at hr;cases hr),fun x hx=>?_⟩;by_cases DB:x=i
  ·subst DB;exact hy.wpOp hi hS ⟨fun _=>hS,H⟩
  have:=ready_mono hx DB;rw[H.1]at this
  cases this
 | succ fuel ih=>
  intro listed a w hC tJ hr hy hS H;refine⟨fun h=>(by rw[h]at hr;cases hr),fun x hx=>?_⟩;by_cases DB:x=i
  ·subst DB;exact hy.wpOp hi hS ⟨fun _=>hS,H⟩
  have h1:=H.2 x (ready_mono hx DB);obtain⟨Ms,ox,Of,BM⟩:=mem_ready.1 hx;have Iq:∀e∈ox.after,Region.binds .any e=true→e.on≠i:=fun e he hb mG=>UK (mem_ready.1 hr).1 (mG▸BM e he hb)
  have Ug:x∉C:=fun hm=>by
   have hw:=hW x hm;unfold zcN at hw;rw[Of]at hw;simp only[Array.any_eq_true']at hw;obtain⟨e,he,hb⟩:=hw;simp only[Bool.and_eq_true,Bool.or_eq_true,beq_iff_eq,xT]at hb;rcases hb.2 with h2|h2
   ·exact Iq e he hb.1 h2
   exact UK (hC _ h2) (BM e he hb.1)
  have WN:x≠j:=fun e=>Ug (e▸hj)
  have h2:=wpOp_putIf Of (tJ x ox Of DB Ms Iq) (fun cs b=>L8 i oi cs b hi) (fun cs b=>L8 x ox cs b Of) hQ hy h1
  have ET:∀k ok,ops[k]?=some ok→k≠i→(listed.setIfInBounds x true).getD k true=false→
    (∀e∈ok.after,Region.binds .any e=true→e.on≠i)→oi.apart ops ok=true:=fun k ok hk Ur L4 BN=>by
   refine tJ k ok hk Ur ?_ BN;by_cases U7:x=k
   ·subst U7;exact Ms
   ·rw[getD_set_ne true U7]at L4;exact L4
  have wF:∀y∈C,(listed.setIfInBounds x true).getD y true=false:=fun y hm=>by
   (have hxy:x≠y:=fun e=>by subst e;exact Ug hm);rw[getD_set_ne true hxy];exact hC y hm
  refine wpOp_mono (fun a' w' h3=>⟨h3.2.1,ih (listed.setIfInBounds x true) a' w' wF ET (ready_mono hr (Ne.symm DB)) h3.1 (h3.2.1 WN) ?_⟩) h2;rw[Array.setIfInBounds_comm _ _ DB];exact h3.2.2
theorem yi(i:Nat){o:Oper}{v:Value}(hS:S w)(h:kz P ops (NoPanic Q) j S fuel (listed.setIfInBounds i true) (a.put o.dst v) w)(hi:ops[i]?=some o:=by rfl)(hs:Region.noSelect ops=true:=by kernel_rfl)(hf:Region.free .any ops listed i=true:=by kernel_rfl)(hr:(Region.ready .any ops listed).contains i=true:=by kernel_rfl)
  (ht:zdt ops listed i j (deps ops i)=true:=by kernel_rfl) (hw:Region.wanted o (yielded ops a.tmps)=true:=by rfl) (hy:∀w,S w→(execOp a.eval o).run P w= .ok (.value v) w:=by intro wS He;have hk:=He;go_simp;(with_reducible rfl)):kz P ops (NoPanic Q) j S (fuel+1) listed a w:=by
 unfold zdt at ht;simp only[Bool.and_eq_true,k2,xT,Bool.not_eq_true']at ht;exact Ke hi (Region.noSelect_spec hs) (fun _ _ _ h=>h) ht.1.1 ht.2 fuel listed a w ht.1.2 (Region.free_spec hi hf) (by simpa using hr) (.inl ⟨hw,hy⟩) hS h
theorem yH(i:Nat){o:Oper}(hi:ops[i]?=some o)(hr:Region.ready .any ops listed=[i])(hw:Region.wanted o (yielded ops a.tmps)=true)
  (h:∀K:Act→World→Prop,(∀a' w',(i≠j→S w')→kz P ops Q j S fuel (listed.setIfInBounds i true) a' w'→K a' w')→o.wp P a w K Q):kz P ops Q j S (fuel+1) listed a w:=
 ⟨fun h0=>absurd (hr▸h0) Wz,hr▸fun x hx=>by
  obtain rfl:x=i:=by simpa using hx
  unfold wpOp;rw[hi];simp only[hw,if_true]
  exact .inl (h _ fun a' w' h1 h2=>⟨h1,h2⟩)⟩
theorem Y3{o:Oper}{w':World}{K:Act→World→Prop}{v:Value}(h:(execOp a.eval o).run P w= .ok (.value v) w')(hk:K (a.put o.dst v) w'):o.wp P a w K Q:=by
 unfold Oper.wp;rw[h];exact hk
theorem kN(hr:Region.ready .any ops listed=[])(h:Q .normal a w):kz P ops (NoPanic Q) j S fuel listed a w:=by
 cases fuel with
 | zero=>exact⟨hr,h⟩
 | succ n=>exact⟨fun _=>h,by rw[hr];simp⟩
end
end Go.PH
end
section
namespace Go.PH
open Go.RowKit
section
variable {P : Program} {ops : Array Oper} {Q : Exit → Act → World → Prop} {S S2 : World → Prop} {fuel : Nat} {listed : Array Bool} {a : Act} {w : World}
structure PanW(Q:Exit→Act→World→Prop):Prop where
 h:∀(d:Option Tmp) (v:Value) (c:List PanicEntry) (a:Act) (w:World),Q (.panic c) (a.put d v) w→Q (.panic c) a w
theorem zQ(P:Program)(fn:Func)(R:Ending→World→Prop):PanW (bodyPost P fn R):=⟨fun d v c a w h=>⟨by cases d<;>exact h.1,h.2⟩⟩
theorem zR{K:Act→World→Prop}(h:PanW Q):PanW (Exit.then K Q):=⟨fun d v c a w hh=>h.h d v c a w hh⟩
theorem zH{id:Nat}(h:PanW Q):PanW (Exit.inBlock id Q):=⟨fun d v c a w hh=>h.h d v c a w hh⟩
theorem VI(S:World→Prop){id:Nat}(hm:P.follows .mixedOrders=true)(h:wpAnyH P .any ops Q S ops.size (Array.replicate ops.size false) a w.drew):(Code.region id ops true).wp P Q a w:=wp_region_held hm h
theorem ya(hQ:PanW Q)(i:Nat){o:Oper}{v:Value}(hi:ops[i]?=some o)(hs:Region.noSelect ops=true)(hf:Region.free .any ops listed i=true)(hr:(Region.ready .any ops listed).contains i=true)
  (hS:S w) (hw:Region.wanted o (yielded ops a.tmps)=true) (hy:∀w,S w→(execOp a.eval o).run P w= .ok (.value v) w)
  (h:wpAnyH P .any ops Q S fuel (listed.setIfInBounds i true) (a.put o.dst v) w):wpAnyH P .any ops Q S (fuel+1) listed a w:=
 wpAnyH_take hi hs hf hr (fun c a w h=>hQ.h _ _ c a w h) (.inl ⟨hw,hy⟩) hS h
theorem qT(hr:Region.ready .any ops listed=[])(h:Q .normal a w):wpAnyH P .any ops Q S fuel listed a w:=wpAnyH_done hr h _
end
section
variable {α : Type} {f : α → List Value} {sz : Nat} {w : World} {base e n c : Nat} {A : Option Addr} {l : List α}
theorem kk(h:RecShape f sz){z:α}(ho:Own w base e sz A (l.length+1) c (rowC f (l++ [z]))):∃g cur,A=some ⟨g,0,none⟩∧base≤g∧Box w g e cur∧l.length*sz+sz≤cur.size∧
  ∀(x:α) (w':World) (cs':Array Value),cs'=(cur.toList.take (l.length*sz)++f x++cur.toList.drop (l.length*sz+(f x).length)).toArray→Box w' g e cs'→Own w' base e sz A (l.length+1) c (rowC f (l++ [x])):=by
 unfold Own q7 at ho;obtain⟨hl,h1⟩:=ho;rcases h1 with⟨_,h0⟩|⟨g,cap,cur,hv,hb,hh,iC,rR,Bm,ht⟩
 ·omega
 injection hv with h1 h2 h3
 subst h1 h3;have fZ:(l.length+1)*sz≤cur.size:=by rw[Bm];exact K1 _ iC
 have gF:l.length*sz+sz≤cur.size:=by rw[←q2];exact fZ
 refine⟨g,cur,rfl,hb,hh,gF,fun x w' cs' e mI=>?_⟩;have Ob:(f x).length=sz:=h.len x
 have AE:cur.toList.take (l.length*sz)=rowC f l:=by
  have h3:=congrArg (List.take (l.length*sz)) ht;rw[j8,q8 (by rw[q2];omega),ql]at h3;rw[h3,q1 (by rw[jy h];exact Q1 _),Vy (by rw[jy h];exact Q1 _)]
 have cR:cs'.size=cur.size:=by
  rw[e];simp only[k6,KS,K0,q9,Array.length_toList,Ob];omega
 unfold Own q7;refine⟨by rw[jy h,KS];rfl,.inr ⟨g,c,cs',rfl,hb,mI,iC,rR,by rw[cR,Bm],?_⟩⟩;rw[e,ql];simp only[List.toList_toArray];rw[q1 (by simp only[KS,K0,Array.length_toList,Ob,q2];omega),AE,Vy (by rw[KS,jy h,Ob,q2];exact Q1 _)];simp[rowC]
theorem vg{t:TypeId}{cs:Array Value}{g:Nat}(hb:Box w g t cs)(hs:cs.size=n*sz)(hm:n≤maxLen):Rd w w.heap.size sz (some ⟨g,0,none⟩) n n cs.toList:=
 ⟨by simpa using hs,Q1 _,hm,fun _=>⟨g,0,rfl,hb.lt,fun j u hu=>by rw[q3];exact hb.cell (by simpa using hu)⟩⟩
end
end Go.PH
end
section
namespace Go.PH
open Go.RowKit Go.ChangeShapes Go.WideShapes Go.ChangeAt
open Go.ChangeMaps (open_string shut_string)
section
variable {H : Type} {enc : TypeId × Value → H} {P : Program} {W W' : World}
theorem vc(hl:laidOutB P=true)(bel:Below W.heap.size W W'):∀{ts:List TypeId} {vs:List Value} {ds:List (DataW H)} {ps:List MemPlace},(ts.all fun t=>P.readableRec t&&decide (t<P.types.size))=true→
  (∀x∈ps,x.block<W.heap.size)→DataW.TrodAll enc P W 0 (fun _=>true) true ts vs ds ps→DataW.TrodAll enc P W' 0 (fun b=>decide (b<W.heap.size)) true ts vs ds ps
 | [],[],[],_,_,_,h=>h
 | [],_::_,_,_,_,_,h=>h.elim
 | [],[],_::_,_,_,_,h=>h.elim
 | _::_,[],_,_,_,_,h=>h.elim
 | _::_,_::_,[],_,_,_,h=>h.elim
 | t::ts,v::vs,d::ds,ps,ha,hlt,h=>by
  obtain⟨p,q,hp,hq,rfl⟩:=h;simp only[List.all_cons,Bool.and_eq_true,decide_eq_true_eq]at ha;exact⟨p,q,Below.trod hl ha.1.1 ha.1.2 hp bel (fun x hx=>hlt x (by simp[hx])),vc hl bel (by simpa using ha.2) (fun x hx=>hlt x (by simp[hx])) hq,rfl⟩
theorem zaW{fn:Func}{s:ChangeSpec}{args:Array Value}{ds gs:List (DataW H)}{before:List MemPlace}{bt:TypeId}(Dj:s.vars=[])
  (hW:DataW.Whole enc P fn.params.toList s.vars false W args.toList ds gs before) (hl:laidOutB P=true) (pe:(fn.params.toList.all fun t=>P.readableRec t&&decide (t<P.types.size))=true)
  (hrt:fn.resultTypes= #[bt]) (hb:P.underlying bt=some .bool) (UI:∀ds:List (DataW H),ds.length=fn.params.size→s.fn H ds={results:=[.lit (.bool true)],args:=ds}) (bel:Below W.heap.size W W'):
  s.post enc P fn false true false false W args (.bool true) W':=by
 have Gt:=hW;obtain⟨p,q,hA,hV,rfl,Eb,hnd⟩:=hW;rw[Dj]at hV;obtain⟨rfl,rfl⟩:=trodVars_none hV
 have bQ:∀{ts:List TypeId} {vs:List Value} {ds:List (DataW H)} {ps:List MemPlace},DataW.TrodAll enc P W 0 (fun _=>true) true ts vs ds ps→ds.length=ts.length:=by
  intro ts
  induction ts with
  | nil=>intro vs ds ps h;cases vs<;>cases ds<;>simp_all [DataW.TrodAll]
  | cons t ts ih=>
   intro vs ds ps h;obtain⟨v,vs',d,ds',p,q,rfl,rfl,rfl,_,h⟩:=trodAll_cons h;simp[ih h]
 have e:s.fn H (ds++ [])={results:=[.lit (.bool true)],args:=ds}:=by rw[xB];exact UI ds (by rw[bQ hA];simp)
 refine⟨ds,[],_,[],p,[],Gt,?_,?_,?_,bel.frame _,fun h=>by cases h⟩
 ·rw[e,hrt];exact⟨[],[],shut_bool hb true,rfl,rfl⟩
 ·rw[e];exact vc hl bel pe (fun x hx=>Gt.lt x (by simp[hx])) hA
 rw[e,Dj];exact rfl
end
end Go.PH
end
section
namespace Go.PH
open Go.RowKit Go.ChangeShapes Go.WideShapes Go.ChangeAt Go.Deep
section
variable {H : Type} {enc : TypeId × Value → H} {P : Program} {W : World}
def Reader(enc:TypeId×Value→H)(P:Program)(W:World)(t:TypeId){α:Type}(R:α→List Value→Prop):Prop:=
 ∀(fuel:Nat) (cs:List Value) (d:DataW H) (p:List MemPlace),DataW.trod enc P W 0 (fun _=>true) true fuel t cs=some (d,p)→(∀x∈d.weights P t,x≤reachBytes)→∃a,R a cs
def RInt(k:IntKind)(n:Int)(cs:List Value):Prop:=cs=[.int k n]∧(Lit.int k n).wf=true
def RStr(l:List UInt8)(cs:List Value):Prop:=cs=[.string (str l)]∧l.length≤140737488351232
def zdg(W:World)(size bytes:Nat){α:Type}(R:α→List Value→Prop)(L:List α)(cs:List Value):Prop:=
 ∃A n c xs,cs=[.slice A n c]∧Rd W W.heap.size size A n c xs∧L.length=n∧c*bytes≤140737488351232∧∀i (h:i<L.length),R L[i] ((xs.drop (i*size)).take size)
theorem vD{t:TypeId}{k:IntKind}(ht:P.underlying t=some (.int k)):Reader enc P W t (RInt k):=fun fuel cs d p h _=>by
 obtain⟨n,h1,_,h2⟩:=DataW.trod_int ht h;exact⟨n,h1,h2⟩
theorem Yd{t:TypeId}(ht:P.underlying t=some .string):Reader enc P W t RStr:=fun fuel cs d p h hw=>by
 obtain⟨s,h1,h2,_⟩:=DataW.trod_string ht h;obtain⟨rfl,rfl⟩:d=_∧p=_:=by simpa using h2
 have:=hw s.data.toList.length (by simp[DataW.weights]);exact⟨s.data.toList,h1,by simpa[reachBytes]using this⟩
theorem kt{e:TypeId}:∀{ds:List (DataW H)} {d:DataW H},d∈ds→∀x∈d.weights P e,x∈DataW.weightsAll P e ds
 | d0::ds,d,hd,x,hx=>by
  simp only[DataW.weightsAll,xA];rcases j1.1 hd with rfl|h
  ·exact .inl hx
  exact .inr (kt h x hx)
theorem vR{t e size bytes:Nat}{α:Type}{R:α→List Value→Prop}(ht:P.underlying t=some (.slice e))(hc:P.cellsOf e=size)(dX:P.bytesOf e=bytes)(nA:0<size)(hr:Reader enc P W e R):Reader enc P W t (zdg W size bytes R):=fun fuel cs d p h hw=>by
 have hlt:=DataW.trod_lt fuel _ _ _ h;rcases open_slice ht h with⟨rfl,_⟩|⟨a,len,cap,m,n,D,Pl,rfl,hb,hl,hm,pO,hx,BF⟩
 ·exact⟨[],none,0,0,[],rfl,Rd.nil _ _ _ _ WX _,rfl,by omega,fun i h=>by simp at h⟩
 simp only[if_true]at pO;have Oy:=pO.symm;subst Oy;obtain⟨rfl,rfl⟩:d=_∧p=_:=by simpa using hx
 have fp:cap*bytes≤140737488351232:=by
  have:=hw (((((Q2 len).map D).length)+(((Q2 (cap-len)).map fun j=>D (len+j)).length))*P.bytesOf e) (by simp[DataW.weights,ht]);simp only[k5,List.length_range,dX,reachBytes]at this;rwa[show len+(cap-len)=cap by omega]at this
 have each:∀i,i<len→∃y:α×List Value,W.cells? 0 (a.add (i*P.cellsOf e)) (P.cellsOf e)=some y.2∧R y.1 y.2:=fun i hi=>by
  obtain⟨cs',h1,h2⟩:=BF i Wq
  obtain⟨y,hy⟩:=hr _ _ _ _ h2 (fun x hx=>hw x (by
   simp only[DataW.weights,ht,j1,xA]
   exact .inr (.inl (kt (List.mem_map.2 ⟨i,k3.2 hi,rfl⟩) x hx))))
  exact⟨(y,cs'),h1,hy⟩
 obtain⟨Y,hY⟩:∃Y:Nat→Option (α×List Value),∀i,i<len→∃y,Y i=some y∧W.cells? 0 (a.add (i*P.cellsOf e)) (P.cellsOf e)=some y.2∧R y.1 y.2:=
  ⟨fun i=>if h:i<len then some (each i h).choose else none,fun i hi=>⟨_,dif_pos hi,(each i hi).choose_spec⟩⟩
 by_cases fE:len=0
 ·subst fE;exact⟨[],some a,0,cap,[],rfl,Rd.nil _ _ _ _ hm _,rfl,fp,fun i h=>by simp at h⟩
 obtain⟨y0,_⟩:=hY 0 Wq
 obtain⟨Y',TF⟩:∃Y':Nat→α×List Value,∀i,i<len→Y i=some (Y' i):=⟨fun i=>(Y i).getD y0,fun i hi=>by
  obtain⟨y,hy,_⟩:=hY i hi;show Y i=some ((Y i).getD y0)
  rw[hy];rfl⟩
 replace hY:∀i,i<len→W.cells? 0 (a.add (i*P.cellsOf e)) (P.cellsOf e)=some (Y' i).2∧R (Y' i).1 (Y' i).2:=fun i hi=>by
  obtain⟨y,hy,h1⟩:=hY i hi;rw[TF i hi]at hy;injection hy with hy
  rw[hy];exact h1
 clear TF each;obtain⟨Y,rfl⟩:∃Y,Y=Y':=⟨_,rfl⟩
 have C6:∀i,i<len→(Y i).2.length=size:=fun i hi=>by rw[←hc];exact(zB (hY i hi).1).2.1
 have FR:∀(k:Nat),k≤len→((Q2 k).flatMap fun i=>(Y i).2).length=k*size∧∀i,i<k→((((Q2 k).flatMap fun i=>(Y i).2).drop (i*size)).take size)=(Y i).2:=by
  intro k
  induction k with
  | zero=>intro _;simp
  | succ k ih=>
   intro hk;obtain⟨h1,h2⟩:=ih Wq;have iN:=C6 k Wq;rw[xy,List.flatMap_append];simp only[List.flatMap_cons,List.flatMap_nil,xB];refine⟨by rw[KS,h1,iN,q2],fun i hi=>?_⟩;rcases y9 i k with mg|mg
   ·(have:i*size+size≤k*size:=by rw[←q2];exact K1 _ mg);rw[y8 (by rw[h1];omega),q1 (by rw[q9,h1];omega)];exact h2 i mg
   (obtain rfl:i=k:=by omega);rw[y6,h1,Nat.sub_self,y7 (by rw[h1];exact Q1 _),y5,v1,Vy Wq]
 obtain⟨hL,Td⟩:=FR len (Q1 _);refine⟨(Q2 len).map fun i=>(Y i).1,some a,len,cap,(Q2 len).flatMap fun i=>(Y i).2,rfl,⟨hL,hl,hm,fun hn=>?_⟩,by simp,fp,fun i hi=>?_⟩
 ·obtain⟨_,_,D5⟩:=zB (hY 0 hn).1;have h0:=D5 0 Wq
  have NT:W.cell? a=(Y 0).2[0]?:=by
   rw[←h0];congr 1;simp[Addr.add]
  have Dp:(Y 0).2[0]?=some ((Y 0).2[0]'(by rw[C6 0 hn];exact nA)):=KL _;rw[Dp]at NT;obtain⟨b,off,spot⟩:=a;have LO:spot=none:=World.cell?_spot NT;subst LO;refine⟨b,off,rfl,zA W _ NT,fun j u hu=>?_⟩;have hj:j<len*size:=by rw[←hL];exact(y4.1 hu).1
  have hq:j / size<len:=(Nat.div_lt_iff_lt_mul nA).2 hj;have oc:j % size<size:=Nat.mod_lt _ nA;have WY:j / size*size+j % size=j:=by rw[k1];exact Nat.div_add_mod j size
  obtain⟨_,_,Cg⟩:=zB (hY (j / size) hq).1;have h3:=Cg (j % size) (by rw[hc];exact oc);rw[hc]at h3
  have h4:(Y (j / size)).2[j % size]?=some u:=by
   rw[←Td _ hq,yB,if_pos oc,z8,WY];exact hu
  rw[h4]at h3;rw[←h3];congr 1;unfold Addr.add;split<;>split<;>simp_all<;>omega
 simp only[List.getElem_map,List.getElem_range];have hi':i<len:=by simpa using hi
 rw[Td i hi'];exact(hY i hi').2
theorem Ye{t fuel:Nat}{cs:List Value}{d:DataW H}{p:List MemPlace}{fs:Array Field}(ht:P.underlying t=some (.struct fs))(h:DataW.trod enc P W 0 (fun _=>true) true fuel t cs=some (d,p))(hw:∀x∈d.weights P t,x≤reachBytes):
  cs.length=P.cellsOf t∧∀(i:Nat) (f:Field),fs[i]?=some f→∀{α:Type} {R:α→List Value→Prop},Reader enc P W f.type R→∃a,R a ((cs.drop f.offset).take (P.cellsOf f.type)):=by
 obtain⟨xs,n,_,hx,hl,bQ,hf⟩:=DataW.trod_struct ht h;obtain⟨rfl,rfl⟩:d=_∧p=_:=by simpa using hx
 refine⟨hl,fun i f hi α R hr=>?_⟩;have hif:i<fs.size:=(Array.getElem?_eq_some_iff.1 hi).1;have h1:=hf i f hi;rw[KL Wq]at h1;refine hr _ _ _ _ h1 fun x Ws=>hw x ?_
 simp only[DataW.weights,ht];refine DataW.weights_mem_each (j:=i) (t:=f.type) (d:=xs[i].1) ?_ ?_ x Ws
 ·rw[q6,Array.getElem?_toList,hi];rfl
 rw[q6,KL Wq];rfl
theorem K3{t:TypeId}{v:Value}{d:DataW H}{ps:List MemPlace}{α:Type}{R:α→List Value→Prop}(hr:Reader enc P W t R)(hd:DataW.Trod enc P W 0 (fun _=>true) true t v d ps)
  {ts:List TypeId} {ds:List (DataW H)} {j:Nat} (hz:(DataW.weightsEach P ts ds).all (· ≤reachBytes)=true) (ht:ts[j]?=some t) (pi:ds[j]?=some d):∃a,R a v.cells.toList:=by
 obtain⟨fuel,hf⟩:=hd;refine hr fuel _ d ps hf fun x hx=>?_
 have:=k2.1 hz x (DataW.weights_mem_each ht pi x hx);simpa using this
theorem za0{t e size bytes:Nat}{v:Value}{d:DataW H}{ps:List MemPlace}{r:Reach}{b0:Nat}{α:Type}{R:α→List Value→Prop}(ht:P.underlying t=some (.slice e))(hc:P.cellsOf e=size)(dX:P.bytesOf e=bytes)(nA:0<size)(hr:Reader enc P W e R)
  (t8:Value.okWide P W r b0 t v) (hd:DataW.Trod enc P W 0 (fun _=>true) true t v d ps)
  {ts:List TypeId} {ds:List (DataW H)} {j:Nat} (hz:(DataW.weightsEach P ts ds).all (· ≤reachBytes)=true) (pe:ts[j]?=some t) (pi:ds[j]?=some d):
  ∃(A:Option Addr) (n c:Nat) (xs:List Value) (L:List α),v= .slice A n c∧Rd W W.heap.size size A n c xs∧L.length=n∧c*bytes≤140737488351232∧∀i (h:i<L.length),R L[i] ((xs.drop (i*size)).take size):=by
 obtain⟨A,n,c,rfl⟩:=okWide_slice ht t8;obtain⟨L,A',n',c',xs,h1,h2,h3,h4,h5⟩:=K3 (vR ht hc dX nA hr) hd hz pe pi;obtain⟨rfl,rfl,rfl⟩:A=A'∧n=n'∧c=c':=by simpa[Value.cells]using h1
 exact⟨A,n,c,xs,L,rfl,h2,h3,h4,h5⟩
end
end Go.PH
end
namespace Go.PH
open Go.RowKit Go.Proofs Go.Proofs.Tryz
variable {b : List UInt8} {k : Nat}
theorem slB:SlT prog 55 5 1 1 (.int .u8 0):=SlT.mk' underlying55 Wj rfl Wq
theorem jh{w:World}{B n c:Nat}{A:Option Addr}{l:List UInt8}(hr:RdB w B A n c l):(convert 55 9 (.slice A n c)).run prog w= .ok (.string (str l)) w:=
 jm underlying55 underlying9 underlying5 hr
def xv:Nat→Nat
 | 0=>15|1=>3|2=>16|3=>255|4=>0|5=>15|6=>255|7=>255|_=>0
def frN(b:List UInt8):Nat:=256*(b.getD 2 0).toNat+(b.getD 3 0).toNat
def yF(b:List UInt8)(k:Nat):Bool:=if k=3 then decide (12≤frN b)&&decide (frN b≤4096)else decide ((b.getD k 0).toNat≤xv k)
def zN(b:List UInt8):Bool:=(Q2 (min b.length 12)).all (yF b)
theorem zc5(p:Option Addr)(n:Nat)(w:World):
  Calls prog 72 #[.int .u8 n,.pointer p] w fun e w'=>e= .returned (.func (.func 73) #[] #[.pointer p,.pointer (some ⟨w.heap.size,0,none⟩)])∧w'=w.alloc (.cells #[.int .u8 n] 5):=by
 go_enter func72,ntmps72;go_wp2_with(with_reducible refine h_A ?_);go_ret;exact⟨rfl,rfl⟩
theorem qU(A:Option Addr)(n c:Nat)(b:List UInt8)(B bb nb m:Nat)(w:World)(hr:RdB w B A n c b)(hb:w.cell? ⟨bb,0,none⟩=some (.slice A n c))(hn:w.cell? ⟨nb,0,none⟩=some (.int .u8 m))(i:Nat)(hi:i<n)(dg:n≤140737488355328):
  Calls prog 73 #[.int .i64 i,.pointer (some ⟨bb,0,none⟩),.pointer (some ⟨nb,0,none⟩)] w fun e w'=>e= .returned (.bool (decide ((b.getD i 0).toNat≤m)))∧∃q,w'=w.drewN q:=by
 obtain⟨bk,off,rfl,_,hl,hc⟩:=RdB.at_k hr hi;have e:b.getD i 0=b[i]:=by simp[z1,KL hl]
 have hx:=b[i].toNat_lt;rw[e];generalize b[i].toNat=x at*;have hd:decide ((x:Int)≤(m:Int))=decide (x≤m):=by rw[Bool.eq_iff_iff];simp
 go_enter func73,ntmps73;go_wp2_with(with_reducible refine h_A ?_);go_quiet(fail);go_wp2_with(with_reducible refine h_A ?_);go_ret;exact⟨by first|rfl|simp[hd],_,rfl⟩
theorem KG(i:Nat)(w:World):Calls prog 74 #[.int .i64 i] w fun e w'=>e= .returned (.bool true)∧w'=w:=by
 go_enter func74,ntmps74;go_wp2_with(with_reducible refine h_A ?_);go_ret;exact⟨rfl,rfl⟩
theorem zc6(x y:Nat)(hx:x<256)(hy:y<256):bits .or .i64 ((x:Int)*256) (y:Int)=((256*x+y:Nat):Int):=by
 have e:(x:Int)*256=((256*x:Nat):Int):=by omega
 rw[e];show IntKind.i64.wrap ((BitVec.ofInt 64 ((256*x:Nat):Int)|||BitVec.ofInt 64 (y:Int)).toNat:Int)=_
 have h2:=Nat.two_pow_add_eq_or_of_lt (i:=8) (b:=y) Wq x;rw[BitVec.toNat_or,ofInt_u64 _ Wq,ofInt_u64 _ Wq,show 256*x=2 ^ 8*x by omega,←h2];exact IntWalk.i64_in _ ⟨by omega,by omega⟩
theorem zaN(A:Option Addr)(n c:Nat)(b:List UInt8)(B bb:Nat)(w:World)(hr:RdB w B A n c b)(hb:w.cell? ⟨bb,0,none⟩=some (.slice A n c))(h3:3<n)(dg:n≤140737488355328):
  Calls prog 75 #[.int .i64 3,.pointer (some ⟨bb,0,none⟩)] w fun e w'=>e= .returned (.bool (decide (12≤frN b)&&decide (frN b≤4096)))∧∃q,w'=w.drewN q:=by
 obtain⟨bk,off,rfl,_,oq,i6⟩:=RdB.at_k hr h3;obtain⟨bk',off',e',_,cR,dN⟩:=RdB.at_k hr (k:=2) Wq;obtain⟨rfl,rfl⟩:bk=bk'∧off=off':=by simpa using e'
 have e2:b.getD 2 0=b[2]:=by simp[z1,KL cR]
 have e3:b.getD 3 0=b[3]:=by simp[z1,KL oq]
 have hx:=b[2].toNat_lt;have hy:=b[3].toNat_lt;unfold frN;rw[e2,e3];generalize b[2].toNat=x at*;generalize b[3].toNat=y at*;have fX:=zc6 x y hx hy;have h3':(3:Int)<(n:Int):=by omega
 have hW:=fun(v:Bool) (hv:(decide (12≤256*x+y)&&decide (256*x+y≤4096))=v)=>Lib.hid hv
 by_cases h1:12≤256*x+y
 ·have d1:(12:Int)≤256*(x:Int)+(y:Int):=by omega
  by_cases h2:256*x+y≤4096
  ·have qqds:=();exact Z39_
  exact Z39_
 have qqdt:=();exact Z39_
theorem xU(hk:k<b.length)(Bk:k<12)(h:yF b k=false):zN b=false:=by
 unfold zN;rw[List.all_eq_false];exact⟨k,k3.2 Wq,by simp[h]⟩
theorem qf{p:Nat→Bool}(h:(Q2 k).all p=true)(hp:p k=true):(Q2 (k+1)).all p=true:=by
 rw[xy,List.all_append,h];simp[hp]
theorem jA(p:Option Addr)(n:Nat)(w:World):
  Calls prog 72 #[.int .u8 n,.pointer p] w fun e w'=>∃nb,e= .returned (.func (.func 73) #[] #[.pointer p,.pointer (some ⟨nb,0,none⟩)])∧w'.cell? ⟨nb,0,none⟩=some (.int .u8 n)∧Below w.heap.size w w':=by
 refine(zc5 p n w).mono ?_;rintro e w' ⟨rfl,rfl⟩;exact⟨_,rfl,z2 _ _ _ _,(K2 _ _).alloc (Q1 _) _⟩
theorem zq{w w':World}{a:Addr}{u:Value}(h:w.cell? a=some u)(hB:Below w.heap.size w w'):w'.cell? a=some u:=(hB.cell (zA w _ h)).trans h
theorem zaO(A:Option Addr)(n c:Nat)(b:List UInt8)(B:Nat)(w:World)(hr:RdB w B A n c b)(hB:B≤w.heap.size)(hn:n≤140737488355328):
  Calls prog 51 #[.slice A n c] w fun e w'=>e= .returned (.bool (zN b))∧Below w.heap.size w w':=by
 have hl:=RdB.length hr;obtain⟨M,hM⟩:∃M,M=min n 12:=⟨_,rfl⟩
 have rz:(if(12:Int)<(n:Int)then(12:Int)else(n:Int))=(M:Int):=by split<;>omega
 have EM:M≤n:=by omega
 have tA:M≤12:=by omega
 have HWL:Hid (zN b=(Q2 M).all (yF b)):=Lib.hid (by unfold zN;rw[hl,←hM]);have hM3:∀k,k<M→k<b.length:=fun k h=>by omega
 clear hM;obtain⟨w0,og⟩:∃w0,w0=w.alloc (.cells #[.slice A n c] 55):=⟨_,rfl⟩
 have Hr:Below w.heap.size w w0:=by rw[og];exact(K2 _ _).alloc (Q1 _) _
 have ef:w0.cell? ⟨w.heap.size,0,none⟩=some (.slice A n c):=by rw[og];exact z2 _ _ _ _
 go_enter func51,ntmps51;go_wp2_with(with_reducible refine h_A ?_);have DV:=jA (some ⟨w.heap.size,0,none⟩) 15 w0;rw[og]at DV;refine DV.mono ?_;rintro e w1 ⟨SU,rfl,ck,Ok⟩;rw[←og]at Ok;clear DV og;have Ha:=Hr.trans (Ok.mono Hr.size);have ef:=zq ef Ok;clear Ok Hr;go_wp2_with(with_reducible refine h_A ?_);refine(jA (some ⟨w.heap.size,0,none⟩) 3 w1).mono ?_;rintro e w2 ⟨SL,rfl,dN,rj⟩;have Hc:=Ha.trans (rj.mono Ha.size);have ef:=zq ef rj;have ck:=zq ck rj;clear rj Ha;go_wp2_with(with_reducible refine h_A ?_);refine(jA (some ⟨w.heap.size,0,none⟩) 16 w2).mono ?_;rintro e w3 ⟨Sv,rfl,i6,Id⟩;have Hh:=Hc.trans (Id.mono Hc.size);have ef:=zq ef Id;have ck:=zq ck Id;have dN:=zq dN Id;clear Id Hc;go_wp2_with(with_reducible refine h_A ?_);refine(jA (some ⟨w.heap.size,0,none⟩) 0 w3).mono ?_;rintro e w4 ⟨PA,rfl,sB,Gu⟩;have Hn:=Hh.trans (Gu.mono Hh.size);have ef:=zq ef Gu;have ck:=zq ck Gu;have dN:=zq dN Gu;have i6:=zq i6 Gu;clear Gu Hh;go_wp2_with(with_reducible refine h_A ?_);refine(jA (some ⟨w.heap.size,0,none⟩) 15 w4).mono ?_;rintro e w5 ⟨SK,rfl,rX,Gp⟩;have bz:=Hn.trans (Gp.mono Hn.size);have ef:=zq ef Gp;have ck:=zq ck Gp;have dN:=zq dN Gp;have i6:=zq i6 Gp;have sB:=zq sB Gp;clear Gp Hn;go_wp2_with(with_reducible refine h_A ?_);refine(jA (some ⟨w.heap.size,0,none⟩) 0 w5).mono ?_;rintro e w6 ⟨PM,rfl,sX,C1⟩;have bH:=bz.trans (C1.mono bz.size);have ef:=zq ef C1;have ck:=zq ck C1;have dN:=zq dN C1;have i6:=zq i6 C1;have sB:=zq sB C1;have rX:=zq rX C1;clear C1 bz;go_wp2_with(with_reducible refine h_A ?_);refine(jA (some ⟨w.heap.size,0,none⟩) 0 w6).mono ?_;rintro e w7 ⟨Sq,rfl,wg,Cu⟩;have Bq:=bH.trans (Cu.mono bH.size);have ef:=zq ef Cu;have ck:=zq ck Cu;have dN:=zq dN Cu;have i6:=zq i6 Cu;have sB:=zq sB Cu;have rX:=zq rX Cu;have sX:=zq sX Cu;clear Cu bH;go_wp2_with(with_reducible refine h_A ?_);refine(jA (some ⟨w.heap.size,0,none⟩) 0 w7).mono ?_;rintro e w8 ⟨Pt,rfl,Af,wK⟩;have Be:=Bq.trans (wK.mono Bq.size);have ef:=zq ef wK;have ck:=zq ck wK;have dN:=zq dN wK;have i6:=zq i6 wK;have sB:=zq sB wK;have rX:=zq rX wK;have sX:=zq sX wK;have wg:=zq wg wK;clear wK Bq;go_wp2_with(with_reducible refine h_A ?_);refine(jA (some ⟨w.heap.size,0,none⟩) 0 w8).mono ?_;rintro e w9 ⟨PS,rfl,ST,ur⟩;have Bh:=Be.trans (ur.mono Be.size);have ef:=zq ef ur;have ck:=zq ck ur;have dN:=zq dN ur;have i6:=zq i6 ur;have sB:=zq sB ur;have rX:=zq rX ur;have sX:=zq sX ur;have wg:=zq wg ur;have Af:=zq Af ur;clear ur Be;have I8:w.heap.size<w9.heap.size:=zA w9 _ ef;go_wp2_with(with_reducible refine h_A ?_);generalize hW:w9.alloc (.cells #[.func (.func 73) #[] #[.pointer (some ⟨w.heap.size,0,none⟩),.pointer (some ⟨SU,0,none⟩)],.func (.func 73) #[] #[.pointer (some ⟨w.heap.size,0,none⟩),.pointer (some ⟨SL,0,none⟩)],.func (.func 73) #[] #[.pointer (some ⟨w.heap.size,0,none⟩),.pointer (some ⟨Sv,0,none⟩)],.func (.func 75) #[] #[.pointer (some ⟨w.heap.size,0,none⟩)],.func (.func 73) #[] #[.pointer (some ⟨w.heap.size,0,none⟩),.pointer (some ⟨PA,0,none⟩)],.func (.func 73) #[] #[.pointer (some ⟨w.heap.size,0,none⟩),.pointer (some ⟨SK,0,none⟩)],.func (.func 74) #[] #[],.func (.func 74) #[] #[],.func (.func 73) #[] #[.pointer (some ⟨w.heap.size,0,none⟩),.pointer (some ⟨PM,0,none⟩)],.func (.func 73) #[] #[.pointer (some ⟨w.heap.size,0,none⟩),.pointer (some ⟨Sq,0,none⟩)],.func (.func 73) #[] #[.pointer (some ⟨w.heap.size,0,none⟩),.pointer (some ⟨Pt,0,none⟩)],.func (.func 73) #[] #[.pointer (some ⟨w.heap.size,0,none⟩),.pointer (some ⟨PS,0,none⟩)]] 145)=W;have pn:∀(i:Nat) u,(#[.func (.func 73) #[] #[.pointer (some ⟨w.heap.size,0,none⟩),.pointer (some ⟨SU,0,none⟩)],.func (.func 73) #[] #[.pointer (some ⟨w.heap.size,0,none⟩),.pointer (some ⟨SL,0,none⟩)],.func (.func 73) #[] #[.pointer (some ⟨w.heap.size,0,none⟩),.pointer (some ⟨Sv,0,none⟩)],.func (.func 75) #[] #[.pointer (some ⟨w.heap.size,0,none⟩)],.func (.func 73) #[] #[.pointer (some ⟨w.heap.size,0,none⟩),.pointer (some ⟨PA,0,none⟩)],.func (.func 73) #[] #[.pointer (some ⟨w.heap.size,0,none⟩),.pointer (some ⟨SK,0,none⟩)],.func (.func 74) #[] #[],.func (.func 74) #[] #[],.func (.func 73) #[] #[.pointer (some ⟨w.heap.size,0,none⟩),.pointer (some ⟨PM,0,none⟩)],.func (.func 73) #[] #[.pointer (some ⟨w.heap.size,0,none⟩),.pointer (some ⟨Sq,0,none⟩)],.func (.func 73) #[] #[.pointer (some ⟨w.heap.size,0,none⟩),.pointer (some ⟨Pt,0,none⟩)],.func (.func 73) #[] #[.pointer (some ⟨w.heap.size,0,none⟩),.pointer (some ⟨PS,0,none⟩)]]:Array Value)[i]?=some u→W.cell? ⟨w9.heap.size,i,none⟩=some u:=fun i u h=>by rw[←hW];exact(z2 _ _ _ _).trans h
 have sW:Below w9.heap.size w9 W:=by rw[←hW];exact(K2 _ _).alloc (Q1 _) _
 have eu:=Bh.trans (sW.mono Bh.size);have ef:=zq ef sW;have ck:=zq ck sW;have dN:=zq dN sW;have i6:=zq i6 sW;have sB:=zq sB sW;have rX:=zq rX sW;have sX:=zq sX sW;have wg:=zq wg sW;have Af:=zq Af sW;have ST:=zq ST sW;have hp0:=pn 0 _ rfl;have lQ:=pn 1 _ rfl;have fW:=pn 2 _ rfl;have pA:=pn 3 _ rfl;have me:=pn 4 _ rfl;have Nm:=pn 5 _ rfl;have LK:=pn 6 _ rfl;have wv:=pn 7 _ rfl;have C4:=pn 8 _ rfl;have nw:=pn 9 _ rfl;have had:=pn 10 _ rfl;have W0:=pn 11 _ rfl;clear pn hW sW Bh;go_loopw [37] (fun s wr=>∃(k q:Nat),k≤M∧s= .int .i64 k∧(Q2 k).all (yF b)=true∧wr=W.drewN q) (fun s _=>M-(RowKit.intOf s).toNat)
 case atStart=>exact⟨0,0,by omega,rfl,rfl,rfl⟩
 obtain⟨k,q,hk,rfl,BM,rfl⟩:=hrel;by_cases hlt:k<M
 ·have B1:RdB (W.drewN q) B A n c b:=(Rd.below hr (eu.mono hB)).drewN q;have dM:=za eu q;have mm:=hM3 k hlt;rcases(by omega:k=0∨k=1∨k=2∨k=3∨k=4∨k=5∨k=6∨k=7∨k=8∨k=9∨k=10∨k=11)with rfl|rfl|rfl|rfl|rfl|rfl|rfl|rfl|rfl|rfl|rfl|rfl
  ·have qqa5:=();exact Z23_
  ·have qqa6:=();exact Z23_
  ·have qqa7:=();exact Z23_
  ·exact Z23_
  ·have qqa8:=();exact Z23_
  ·have qqa9:=();exact Z23_
  ·skip
   have co:yF b 6=true:=by
    (show decide ((b.getD 6 0).toNat≤255)=true);have hx:(b.getD 6 0).toNat<256:=(b.getD 6 0).toNat_lt;exact decide_eq_true (x0 hx)
   have dR:=qf BM co;clear co;go_wp2_with(with_reducible refine h_A ?_);refine(KG 6 _).mono ?_;rintro e w' ⟨rfl,rfl⟩;go_wp2_with(with_reducible refine h_A ?_);exact⟨⟨6+1,q,by omega,by go_num,dR,rfl⟩,by simp[RowKit.intOf];try omega⟩
  ·skip
   have co:yF b 7=true:=by
    (show decide ((b.getD 7 0).toNat≤255)=true);have hx:(b.getD 7 0).toNat<256:=(b.getD 7 0).toNat_lt;exact decide_eq_true (x0 hx)
   have dR:=qf BM co;clear co;go_wp2_with(with_reducible refine h_A ?_);refine(KG 7 _).mono ?_;rintro e w' ⟨rfl,rfl⟩;go_wp2_with(with_reducible refine h_A ?_);exact⟨⟨7+1,q,by omega,by go_num,dR,rfl⟩,by simp[RowKit.intOf];try omega⟩
  ·have qqaa:=();exact Z23_
  ·have qqab:=();exact Z23_
  ·have qqac:=();exact Z23_
  have qqad:=();exact Z23_
 obtain rfl:k=M:=by omega
 have HA:=Lib.hid BM;clear BM;go_wp2_with(with_reducible refine h_A ?_);go_ret;rw[HWL.out,HA.out];exact⟨rfl,za eu q⟩
def zX(b:List UInt8)(i:Nat):Nat:=(b.getD i 0).toNat
def frAt(b:List UInt8)(n:Nat):Fr:=⟨zX b 0 / 8 % 2==1,zX b 0 / 4 % 2==1,zX b 0 / 2 % 2==1,zX b 0 % 2==1,zX b 1,zX b 5,256*zX b 6+zX b 7,(b.take n).drop 12⟩
def qQ:Nat→List UInt8→List Fr×Nat×Nat
 | 0,_=>([],0,0)
 | k+1,b=>if zN b=false then([],0,60)else if b.length<12 then([],0,0)else if b.length<frN b then([],0,0)else
  (frAt b (frN b)::(qQ k (b.drop (frN b))).1,frN b+(qQ k (b.drop (frN b))).2.1,(qQ k (b.drop (frN b))).2.2)
def zu(b:List UInt8):List Fr×Nat×Nat:=qQ (b.length+1) b
theorem qe(h:zN b=true)(hl:4≤b.length):12≤frN b∧frN b≤4096:=by
 unfold zN at h;rw[k2]at h;have:=h 3 (k3.2 Wq);simpa[yF]using this
theorem xS(h:zN b=true)(hk:k<b.length)(Bk:k<12)(h3:k≠3):zX b k≤xv k:=by
 unfold zN at h;rw[k2]at h;have:=h k (k3.2 Wq);simpa[yF,h3,zX]using this
theorem vQ:∀(k j:Nat) (b:List UInt8),b.length<k→b.length<j→qQ k b=qQ j b
 | 0,_,b,h,_=>by omega
 | _,0,b,_,h=>by omega
 | k+1,j+1,b,hk,hj=>by
  rw[qQ,qQ];split
  ·rfl
  split
  ·rfl
  split
  ·rfl
  rename_i h1 h2 h3
  have hn:=(qe (by simpa using h1) Wq).1;have hl:(b.drop (frN b)).length<k∧(b.drop (frN b)).length<j:=by simp;omega
  rw[vQ k j _ hl.1 hl.2]
theorem qA(h:zN b=false):zu b=([],0,60):=by rw[zu,qQ,if_pos h]
theorem xa(h:zN b=true)(hl:b.length<12):zu b=([],0,0):=by rw[zu,qQ,if_neg (by simp[h]),if_pos hl]
theorem qg(h:zN b=true)(hl:12≤b.length)(hn:b.length<frN b):zu b=([],0,0):=by rw[zu,qQ,if_neg (by simp[h]),if_neg Wq,if_pos hn]
theorem qh(h:zN b=true)(hl:12≤b.length)(hn:frN b≤b.length):zu b=(frAt b (frN b)::(zu (b.drop (frN b))).1,frN b+(zu (b.drop (frN b))).2.1,(zu (b.drop (frN b))).2.2):=by
 have gi:=(qe h Wq).1;rw[zu,qQ,if_neg (by simp[h]),if_neg Wq,if_neg Wq,vQ b.length ((b.drop (frN b)).length+1) _ Hq Wq];rfl
theorem KF(b:List UInt8)(n:Nat):(frAt b n).wf:=by
 have h:∀i,zX b i<256:=fun i=>(b.getD i 0).toNat_lt
 exact⟨h 1,h 5,by show 256*zX b 6+zX b 7<65536;have:=h 6;have:=h 7;omega⟩
def frC(f:Fr):List Value:=[.bool f.first,.bool f.last,.bool f.beg,.bool f.fin,.int .u8 (f.ty:Int),.int .u8 (f.track:Int),.int .u16 (f.chan:Int),.string (str f.load)]
theorem yE:RecShape frC 8 where
 len:=fun _=>rfl
 one:=fun a u hu=>by simp[frC]at hu;rcases hu with rfl|rfl|rfl|rfl|rfl|rfl|rfl|rfl<;>rfl
 pos:=by omega
theorem slF:SlT prog 65 97 8 24 (.agg #[.bool false,.bool false,.bool false,.bool false,.int .u8 0,.int .u8 0,.int .u16 0,.string ⟨#[]⟩]):=SlT.mk' underlying65 Wj rfl Wq
abbrev OwnF(w:World)(base:Nat)(A:Option Addr)(n c:Nat)(l:List Fr):Prop:=Own w base 97 8 A n c (rowC frC l)
theorem zce:∀x:Fin 16,((bits .and .u8 ((x.val:Nat):Int) 8 !=0)=(x.val / 8 % 2==1))∧((bits .and .u8 ((x.val:Nat):Int) 4 !=0)=(x.val / 4 % 2==1))∧((bits .and .u8 ((x.val:Nat):Int) 2 !=0)=(x.val / 2 % 2==1))∧((bits .and .u8 ((x.val:Nat):Int) 1 !=0)=(x.val % 2==1)):=by decide+kernel
end Go.PH
