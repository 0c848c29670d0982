/- Parts. -/
import Derived.Test.YtfbkameikhgciaaGreatDoorProg
import Derived.Test.YtfbkameikhgciaaGreatDoorMz02
set_option linter.all false
set_option maxRecDepth 20000
set_option maxHeartbeats 8000000
open List renaming length_cons → KL, getElem?_eq_getElem → KS, map_cons → K0, foldl_cons → K1, length_take → Vy, eq_nil_of_length_eq_zero → Vx, map_toArray → q1, map_nil → q2, cons_append → q5, getElem?_map → q7, length_map → kv, take_append_of_le_length → kx, take_of_length_le → k0, replicate → k2
open Nat renaming le_refl → Q1, mul_one → K2, zero_add → VB, le_trans → q0, pow_succ → q3, mul_comm → q4, lt_irrefl → q6, min_eq_left → q8, mul_le_mul_right → q9, add_assoc → kI, add_sub_cancel_left → ky, lt_of_lt_of_le → k1
open UInt8 renaming ofNat → Q2
section
namespace Go.Proofs
open Go.Shelf
def Tryz.lays146_ren:Go.Shelf.Ren:=⟨fun|146=>119|221=>146|268=>168|138=>169|143=>170|195=>179|197=>180|218=>181|219=>182|260=>185|217=>186|225=>187|224=>188|267=>189|266=>190|314=>191|n=>n,fun|9=>9|31=>22|3=>3|4=>4|0=>0|105=>259|21=>21|5=>5|46=>123|119=>266|139=>269|138=>268|146=>270|51=>71|n=>n,fun|1=>0|3=>1|4=>2|n=>n⟩
theorem Tryz.lays146:Go.Proofs.Lays.n146 Tryz.prog Tryz.lays146_ren:={
 mixed:=by kernel_rfl
 f138:=Tryz.func169.trans (congrArg some (by kernel_rfl))
 f143:=Tryz.func170.trans (congrArg some (by kernel_rfl))
 f146:=Tryz.func119.trans (congrArg some (by kernel_rfl))
 f195:=Tryz.func179.trans (congrArg some (by kernel_rfl))
 f197:=Tryz.func180.trans (congrArg some (by kernel_rfl))
 f217:=Tryz.func186.trans (congrArg some (by kernel_rfl))
 f218:=Tryz.func181.trans (congrArg some (by kernel_rfl))
 f219:=Tryz.func182.trans (congrArg some (by kernel_rfl))
 f221:=Tryz.func146.trans (congrArg some (by kernel_rfl))
 f224:=Tryz.func188.trans (congrArg some (by kernel_rfl))
 f225:=Tryz.func187.trans (congrArg some (by kernel_rfl))
 f260:=Tryz.func185.trans (congrArg some (by kernel_rfl))
 f266:=Tryz.func190.trans (congrArg some (by kernel_rfl))
 f267:=Tryz.func189.trans (congrArg some (by kernel_rfl))
 f268:=Tryz.func168.trans (congrArg some (by kernel_rfl))
 f314:=Tryz.func191.trans (congrArg some (by kernel_rfl))
 t0:=Tryz.underlying0
 a0:=Tryz.isAgg0
 z0:=Tryz.sizeOf0
 v0:=Tryz.zeroValue0
 t3:=Tryz.underlying3
 a3:=Tryz.isAgg3
 z3:=Tryz.sizeOf3
 v3:=Tryz.zeroValue3
 t4:=Tryz.underlying4
 a4:=Tryz.isAgg4
 z4:=Tryz.sizeOf4
 v4:=Tryz.zeroValue4
 t5:=Tryz.underlying5
 a5:=Tryz.isAgg5
 z5:=Tryz.sizeOf5
 v5:=Tryz.zeroValue5
 t9:=Tryz.underlying9
 a9:=Tryz.isAgg9
 z9:=Tryz.sizeOf9
 v9:=Tryz.zeroValue9
 t21:=Tryz.underlying21
 a21:=Tryz.isAgg21
 z21:=Tryz.sizeOf21
 v21:=Tryz.zeroValue21
 t31:=Tryz.underlying22
 a31:=Tryz.isAgg22
 z31:=Tryz.sizeOf22
 v31:=Tryz.zeroValue22
 t46:=Tryz.underlying123
 a46:=Tryz.isAgg123
 z46:=Tryz.sizeOf123
 v46:=Tryz.zeroValue123
 t51:=Tryz.underlying71
 a51:=Tryz.isAgg71
 z51:=Tryz.sizeOf71
 v51:=Tryz.zeroValue71
 t105:=Tryz.underlying259
 a105:=Tryz.isAgg259
 z105:=Tryz.sizeOf259
 v105:=Tryz.zeroValue259
 t119:=Tryz.underlying266
 a119:=Tryz.isAgg266
 z119:=Tryz.sizeOf266
 t138:=Tryz.underlying268
 a138:=Tryz.isAgg268
 z138:=Tryz.sizeOf268
 v138:=Tryz.zeroValue268
 t139:=Tryz.underlying269
 a139:=Tryz.isAgg269
 z139:=Tryz.sizeOf269
 v139:=Tryz.zeroValue269
 t146:=Tryz.underlying270
 a146:=Tryz.isAgg270
 z146:=Tryz.sizeOf270
 v146:=Tryz.zeroValue270
 g1:=by kernel_rfl
 g3:=by kernel_rfl
 g4:=by kernel_rfl}
open Go.RowKit Go.Lib in
theorem Tryz.strings_Split(s sep:ByteArray)(m:Int)(w:World)(hs:s.size<4294967281)(hm:w.cell? ⟨0,0,none⟩=some (.int .i64 m))(h1:1≤sep.size):
  Calls Tryz.prog 119 #[.string s,.string sep] w fun e w'=>
   e= .returned (.slice (some ⟨w.heap.size,0,none⟩) (Lib.countB s sep+1) (Lib.countB s sep+1))∧w'=w.alloc (.cells ((Lib.splitB sep 0 (Lib.countB s sep) s).map Value.string).toArray 9):=Any.strings_Split Tryz.lays146 (by kernel_rfl) s sep m w hs hm h1
def Tryz.laysM146_ren:Go.Shelf.Ren:=⟨fun|146=>119|221=>146|268=>168|138=>169|143=>170|195=>179|197=>180|218=>181|219=>182|260=>185|217=>186|225=>187|224=>188|267=>189|266=>190|314=>191|n=>n,fun|9=>9|31=>22|3=>3|4=>4|0=>0|105=>259|21=>21|5=>5|46=>123|119=>266|139=>269|138=>268|146=>270|51=>71|n=>n,fun|1=>0|3=>1|4=>2|n=>n⟩
theorem Tryz.laysM146:Go.Proofs.LaysM.n146 Tryz.prog Tryz.laysM146_ren:={
 mixed:=by kernel_rfl
 f138:=Tryz.func169.trans (congrArg some (by kernel_rfl))
 f143:=Tryz.func170.trans (congrArg some (by kernel_rfl))
 f146:=Tryz.func119.trans (congrArg some (by kernel_rfl))
 f195:=Tryz.func179.trans (congrArg some (by kernel_rfl))
 f197:=Tryz.func180.trans (congrArg some (by kernel_rfl))
 f217:=Tryz.func186.trans (congrArg some (by kernel_rfl))
 f218:=Tryz.func181.trans (congrArg some (by kernel_rfl))
 f219:=Tryz.func182.trans (congrArg some (by kernel_rfl))
 f221:=Tryz.func146.trans (congrArg some (by kernel_rfl))
 f224:=Tryz.func188.trans (congrArg some (by kernel_rfl))
 f225:=Tryz.func187.trans (congrArg some (by kernel_rfl))
 f260:=Tryz.func185.trans (congrArg some (by kernel_rfl))
 f266:=Tryz.func190.trans (congrArg some (by kernel_rfl))
 f267:=Tryz.func189.trans (congrArg some (by kernel_rfl))
 f268:=Tryz.func168.trans (congrArg some (by kernel_rfl))
 f314:=Tryz.func191.trans (congrArg some (by kernel_rfl))
 t0:=Tryz.underlying0
 a0:=Tryz.isAgg0
 z0:=Tryz.sizeOf0
 v0:=Tryz.zeroValue0
 t3:=Tryz.underlying3
 a3:=Tryz.isAgg3
 z3:=Tryz.sizeOf3
 v3:=Tryz.zeroValue3
 t4:=Tryz.underlying4
 a4:=Tryz.isAgg4
 z4:=Tryz.sizeOf4
 v4:=Tryz.zeroValue4
 t5:=Tryz.underlying5
 a5:=Tryz.isAgg5
 z5:=Tryz.sizeOf5
 v5:=Tryz.zeroValue5
 t9:=Tryz.underlying9
 a9:=Tryz.isAgg9
 z9:=Tryz.sizeOf9
 v9:=Tryz.zeroValue9
 t21:=Tryz.underlying21
 a21:=Tryz.isAgg21
 z21:=Tryz.sizeOf21
 v21:=Tryz.zeroValue21
 t31:=Tryz.underlying22
 a31:=Tryz.isAgg22
 z31:=Tryz.sizeOf22
 v31:=Tryz.zeroValue22
 t46:=Tryz.underlying123
 a46:=Tryz.isAgg123
 z46:=Tryz.sizeOf123
 v46:=Tryz.zeroValue123
 t51:=Tryz.underlying71
 a51:=Tryz.isAgg71
 z51:=Tryz.sizeOf71
 v51:=Tryz.zeroValue71
 t105:=Tryz.underlying259
 a105:=Tryz.isAgg259
 z105:=Tryz.sizeOf259
 v105:=Tryz.zeroValue259
 t119:=Tryz.underlying266
 a119:=Tryz.isAgg266
 z119:=Tryz.sizeOf266
 t138:=Tryz.underlying268
 a138:=Tryz.isAgg268
 z138:=Tryz.sizeOf268
 v138:=Tryz.zeroValue268
 t139:=Tryz.underlying269
 a139:=Tryz.isAgg269
 z139:=Tryz.sizeOf269
 v139:=Tryz.zeroValue269
 t146:=Tryz.underlying270
 a146:=Tryz.isAgg270
 z146:=Tryz.sizeOf270
 v146:=Tryz.zeroValue270
 g1:=by kernel_rfl
 g3:=by kernel_rfl
 g4:=by kernel_rfl
 i0:=by kernel_rfl
 i3:=by kernel_rfl
 i4:=by kernel_rfl
 i5:=by kernel_rfl
 i9:=by kernel_rfl
 i21:=by kernel_rfl
 i31:=by kernel_rfl
 i46:=by kernel_rfl
 i51:=by kernel_rfl
 i105:=by kernel_rfl
 i138:=by kernel_rfl
 i139:=by kernel_rfl
 i146:=by kernel_rfl
 m1:=by kernel_rfl
 s1_3:=fun w h=>Go.Proofs.cell_of_shapedOpen_int (zero:=#[.int .i64 0]) (t:=3) h (of_decide_eq_true (by kernel_rfl)) (by kernel_rfl) rfl (by kernel_rfl) (by kernel_rfl) Tryz.underlying3
 m3:=by kernel_rfl
 m4:=by kernel_rfl}
open Go.RowKit Go.Lib in
def Tryz.lays197_ren:Go.Shelf.Ren:=⟨fun|197=>180|260=>185|n=>n,fun|9=>9|21=>21|3=>3|4=>4|5=>5|105=>259|119=>266|0=>0|46=>123|139=>269|138=>268|n=>n,fun|3=>1|4=>2|n=>n⟩
theorem Tryz.lays197:Go.Proofs.Lays.n197 Tryz.prog Tryz.lays197_ren:={
 mixed:=by kernel_rfl
 f197:=Tryz.func180.trans (congrArg some (by kernel_rfl))
 f260:=Tryz.func185.trans (congrArg some (by kernel_rfl))
 t0:=Tryz.underlying0
 a0:=Tryz.isAgg0
 z0:=Tryz.sizeOf0
 v0:=Tryz.zeroValue0
 t3:=Tryz.underlying3
 a3:=Tryz.isAgg3
 z3:=Tryz.sizeOf3
 v3:=Tryz.zeroValue3
 t4:=Tryz.underlying4
 a4:=Tryz.isAgg4
 z4:=Tryz.sizeOf4
 v4:=Tryz.zeroValue4
 t5:=Tryz.underlying5
 a5:=Tryz.isAgg5
 z5:=Tryz.sizeOf5
 v5:=Tryz.zeroValue5
 t9:=Tryz.underlying9
 a9:=Tryz.isAgg9
 z9:=Tryz.sizeOf9
 v9:=Tryz.zeroValue9
 t21:=Tryz.underlying21
 a21:=Tryz.isAgg21
 z21:=Tryz.sizeOf21
 v21:=Tryz.zeroValue21
 t46:=Tryz.underlying123
 a46:=Tryz.isAgg123
 z46:=Tryz.sizeOf123
 v46:=Tryz.zeroValue123
 t105:=Tryz.underlying259
 a105:=Tryz.isAgg259
 z105:=Tryz.sizeOf259
 v105:=Tryz.zeroValue259
 t119:=Tryz.underlying266
 a119:=Tryz.isAgg266
 z119:=Tryz.sizeOf266
 t138:=Tryz.underlying268
 a138:=Tryz.isAgg268
 z138:=Tryz.sizeOf268
 v138:=Tryz.zeroValue268
 t139:=Tryz.underlying269
 a139:=Tryz.isAgg269
 z139:=Tryz.sizeOf269
 v139:=Tryz.zeroValue269
 g3:=by kernel_rfl
 g4:=by kernel_rfl}
open Go.RowKit Go.Lib in
theorem Tryz.utf8_DecodeRuneInString(s:ByteArray)(w:World)(hT:Lib.Utf8Tabs 1 2 w):
  Calls Tryz.prog 180 #[.string s] w fun e w'=>e= .returned (.tuple #[.int .i32 (Lib.decodeGo s).1,.int .i64 (Lib.decodeGo s).2])∧Below w.heap.size w w':=Any.utf8_DecodeRuneInString Tryz.lays197 s w hT
end Go.Proofs
end
section
namespace Go.PH
open Go.RowKit
def str(l:List UInt8):ByteArray:=⟨l.toArray⟩
theorem zl(l:List UInt8):(str l).toList=l:=by rw[ByteArray.toList_eq];rfl
theorem zi(l:List UInt8):(str l).size=l.length:=rfl
def u8v(x:UInt8):Value:=.int .u8 (x.toNat:Int)
theorem zb4(x:UInt8):(u8v x).oneCell'=true:=rfl
theorem kT(x:UInt8):u8v x= .int .u8 (x.toNat:Int):=rfl
structure Rd(w:World)(B size:Nat)(A:Option Addr)(n c:Nat)(xs:List Value):Prop where
 len:xs.length=n*size
 cap:n≤c
 max:c≤maxLen
 at_:0<n→∃b off,A=some ⟨b,off,none⟩∧b<B∧∀j u,xs[j]?=some u→w.cell? ⟨b,off+j,none⟩=some u
variable {w w' : World} {B B' size n c : Nat} {A : Option Addr} {xs : List Value}
theorem Rd.keep(h:Rd w B size A n c xs)(hk:∀p:Addr,p.block<B→w'.cell? p=w.cell? p):Rd w' B size A n c xs:=
 ⟨h.len,h.cap,h.max,fun hn=>by
  obtain⟨b,off,e,hb,hc⟩:=h.at_ hn
  exact⟨b,off,e,hb,fun j u hu=>(hk _ hb).trans (hc j u hu)⟩⟩
theorem Rd.more(h:Rd w B size A n c xs)(hB:B≤B'):Rd w B' size A n c xs:=
 ⟨h.len,h.cap,h.max,fun hn=>by
  obtain⟨b,off,e,hb,hc⟩:=h.at_ hn
  exact⟨b,off,e,by omega,hc⟩⟩
theorem Rd.below(h:Rd w B size A n c xs)(hb:Below B w w'):Rd w' B size A n c xs:=h.keep fun _ hp=>hb.cell hp
theorem Rd.below'(h:Rd w B size A n c xs)(hb:Below B' w w')(hB:B≤B'):Rd w' B size A n c xs:=h.below (hb.mono hB)
theorem Rd.nil(w:World)(B size c:Nat)(hc:c≤maxLen)(A:Option Addr):Rd w B size A 0 c []:=⟨by simp,Nat.zero_le _,hc,fun h=>absurd h (q6 0)⟩
theorem Rd.of_own{base e:Nat}(h:w.ownsRow base e size (.slice A n c) n xs):Rd w w.heap.size size A n c xs:=by
 rcases h.2 with⟨hv,rfl⟩|⟨g,cap,cur,hv,_,hh,iy,hm,hs,hx⟩
 ·injection hv with h1 h2 h3
  subst h1 h3;exact⟨h.1,Q1 _,by simp[maxLen],fun hn=>absurd hn (q6 0)⟩
 injection hv with h1 h2 h3
 subst h1 h3;have hlt:=(Array.getElem?_eq_some_iff.1 hh).1;refine⟨h.1,iy,hm,fun _=>⟨g,0,rfl,hlt,fun j u hu=>?_⟩⟩;rw[VB];have h':=h.cells (g:=g) rfl j u hu;have nM:(⟨g,0,none⟩:Addr).add j=⟨g,j,none⟩:=by unfold Addr.add;split<;>simp_all
 rwa[nM]at h'
theorem Rd.at_k(h:Rd w B 1 A n c xs){k:Nat}(hk:k<n):∃b off u,A=some ⟨b,off,none⟩∧b<B∧xs[k]?=some u∧w.cell? ⟨b,off+k,none⟩=some u:=by
 obtain⟨b,off,e,hb,hc⟩:=h.at_ Wq;have hl:k<xs.length:=by have:=h.len;omega
 exact⟨b,off,xs[k],e,hb,KS hl,hc k _ (KS hl)⟩
abbrev RdB(w:World)(B:Nat)(A:Option Addr)(n c:Nat)(l:List UInt8):Prop:=Rd w B 1 A n c (l.map u8v)
theorem RdB.length{l:List UInt8}(h:RdB w B A n c l):l.length=n:=by have:=h.len;simpa using this
theorem RdB.at_k{l:List UInt8}(h:RdB w B A n c l){k:Nat}(hk:k<n):∃b off,A=some ⟨b,off,none⟩∧b<B∧∃hl:k<l.length,w.cell? ⟨b,off+k,none⟩=some (.int .u8 (l[k].toNat:Int)):=by
 obtain⟨b,off,u,e,hb,hx,hc⟩:=Rd.at_k h hk;have hl:k<l.length:=by have:=h.length;omega
 refine⟨b,off,e,hb,hl,?_⟩;rw[q7,KS hl]at hx;simp at hx;rw[hc,←hx];rfl
def Hold(p:Prop):Prop:=p
theorem zc{p:Prop}(h:p):Hold p:=h
section
variable {P : Program} {ops : Array Oper} {Q : Exit → Act → World → Prop} {rest : List Oper} {a : Act} {w : World} {dst : Option Tmp} {ty : TypeId} {pos : String} {after : Array Edge} {guard : Option (Nat × Bool)}
theorem zZ{xs:Array Operand}{ts:Array TypeId}(h:Hold (wpList P ops Q (⟨dst,.call ⟨.builtin .append,xs,ts⟩,ty,pos,after,guard⟩::rest) a w)):
  wpList P ops Q (⟨dst,.call ⟨.builtin .append,xs,ts⟩,ty,pos,after,guard⟩::rest) a w:=h
theorem yq{xs:Array Operand}{ts:Array TypeId}(h:Hold (wpList P ops Q (⟨dst,.call ⟨.builtin .copy,xs,ts⟩,ty,pos,after,guard⟩::rest) a w)):
  wpList P ops Q (⟨dst,.call ⟨.builtin .copy,xs,ts⟩,ty,pos,after,guard⟩::rest) a w:=h
theorem yr{t:TypeId}{l c:Operand}(h:Hold (wpList P ops Q (⟨dst,.makeSlice t l c,ty,pos,after,guard⟩::rest) a w)):
  wpList P ops Q (⟨dst,.makeSlice t l c,ty,pos,after,guard⟩::rest) a w:=h
theorem yt{s t:TypeId}{x:Operand}(h:Hold (wpList P ops Q (⟨dst,.convert s t x,ty,pos,after,guard⟩::rest) a w)):
  wpList P ops Q (⟨dst,.convert s t x,ty,pos,after,guard⟩::rest) a w:=h
theorem yg{t:TypeId}{x:Operand}{lo hi mx:Option Operand}(h:Hold (wpList P ops Q (⟨dst,.slice t x lo hi mx,ty,pos,after,guard⟩::rest) a w)):
  wpList P ops Q (⟨dst,.slice t x lo hi mx,ty,pos,after,guard⟩::rest) a w:=h
end
structure SlT(P:Program)(t e size bytes:Nat)(z:Value):Prop where
 u:P.underlying t=some (.slice e)
 i:∃i,P.info? e=some i∧i.zero=some z∧i.size=size∧i.bytes=bytes
 zs:z.cells.size=size
 pos:0<size
theorem SlT.mk'{P:Program}{t e size bytes:Nat}{z:Value}(u:P.underlying t=some (.slice e))(h:(P.info? e).map (fun i=>(i.zero,i.size,i.bytes))=some (some z,size,bytes))
  (zs:z.cells.size=size) (pos:0<size):SlT P t e size bytes z:=⟨u,info_parts h,zs,pos⟩
abbrev Own(w:World)(base e size:Nat)(A:Option Addr)(n c:Nat)(xs:List Value):Prop:=w.ownsRow base e size (.slice A n c) n xs
abbrev blk(A:Option Addr):Option Nat:=A.map (·.block)
theorem xh(A:Option Addr)(n c:Nat):(Value.slice A n c).ownBlock=blk A:=by cases A<;>rfl
section
variable {P : Program} {w w' : World} {base e size bytes t n c m B : Nat} {A A' : Option Addr} {xs news : List Value} {z : Value}
theorem jQ{v:Value}(h:w.ownsRow base e size v n xs):∃A c,v= .slice A n c:=by
 rcases h.2 with⟨rfl,rfl⟩|⟨g,cap,cur,rfl,_⟩
 ·exact⟨none,0,rfl⟩
 exact⟨_,_,rfl⟩
theorem Own.rd(h:Own w base e size A n c xs):Rd w w.heap.size size A n c xs:=Rd.of_own h
theorem Own.none_(w:World)(base e size:Nat):Own w base e size none 0 0 []:=World.ownsRow_nil w base e size
theorem Own.blk_lt(h:Own w base e size A n c xs){g:Nat}(hg:blk A=some g):base≤g∧g<w.heap.size:=World.ownsRow.lt h g (by rw[xh];exact hg)
theorem Rd.grown(h:Rd w B size A n c xs){row:Option Nat}(hg:w.grownBy w' row)(hB:B≤w.heap.size)(hr:∀g,row=some g→B≤g):Rd w' B size A n c xs:=
 h.keep fun p hp=>World.cell?_of_block (hg.block p.block Wq (fun e=>by have:=hr _ e.symm;omega))
theorem Rd.grown_ne(h:Rd w B size A n c xs){row:Option Nat}(hg:w.grownBy w' row)(hB:B≤w.heap.size)(hne:blk A=none∨blk A≠row):Rd w' B size A n c xs:=
 ⟨h.len,h.cap,h.max,fun hn=>by
  obtain⟨b,off,e,hb,hc⟩:=h.at_ hn;refine⟨b,off,e,hb,fun j u hu=>(World.cell?_of_block (hg.block b Wq ?_)).trans (hc j u hu)⟩;subst e
  simpa[blk]using hne⟩
theorem Kx(hT:SlT P t e size bytes z)(ty:TypeId)(Hl:Own w base e size A n c xs){B m c':Nat}{A':Option Addr}{news:List Value}(hr:Rd w B size A' m c' news)(h1:∀u∈news,u.oneCell'=true)
  (Bw:(n+m)*bytes≤140737488355328) (Dq:n+m≤maxLen) (Hf:base≤w.heap.size):
  ∃A2 c2 w',(Builtin.append_ #[t,t] ty #[.slice A n c,.slice A' m c']).run P w= .ok (.slice A2 (n+m) c2) w'∧Own w' base e size A2 (n+m) c2 (xs++news)∧w.grownBy w' (blk A)∧
   (blk A2=blk A∨blk A2=some w.heap.size):=by
 have qq7r:=();exact Z1b_
theorem yc{ops:Array Oper}{rest:List Oper}{o:Oper}{a:Act}{Q:Exit→Act→World→Prop}{s x:Operand}(hT:SlT P t e size bytes z)(hw:Region.wanted o (yielded ops a.tmps)=true)
  (ho:o.op= .call {callee:=.builtin .append,args:=#[s,x],argTypes:=#[t,t]}) (hs:a.eval s= .slice A n c) {c':Nat} (hx:a.eval x= .slice A' m c')
  (Hl:Own w base e size A n c xs) (hr:Rd w B size A' m c' news) (h1:∀u∈news,u.oneCell'=true)
  (Bw:(n+m)*bytes≤140737488355328) (Dq:n+m≤maxLen) (Hf:base≤w.heap.size)
  (h:∀A2 c2 w',Own w' base e size A2 (n+m) c2 (xs++news)→w.grownBy w' (blk A)→(blk A2=blk A∨blk A2=some w.heap.size)→wpList P ops Q rest (a.put o.dst (.slice A2 (n+m) c2)) w'):
  wpList P ops Q (o::rest) a w:=by
 exact Z35_
theorem X6(hT:SlT P t e size bytes z)(ty:TypeId)(Hl:Own w base e size A n c xs){B m c':Nat}{A':Option Addr}{news:List Value}(hr:Rd w B size A' m c' news)(h1:∀u∈news,u.oneCell'=true)
  (fG:n+m≤c) (Hf:base≤w.heap.size):
  ∃w',(Builtin.append_ #[t,t] ty #[.slice A n c,.slice A' m c']).run P w= .ok (.slice A (n+m) c) w'∧Own w' base e size A (n+m) c (xs++news)∧w.grownBy w' (blk A):=by
 exact Z1b_
theorem Z4{ops:Array Oper}{rest:List Oper}{o:Oper}{a:Act}{Q:Exit→Act→World→Prop}{s x:Operand}(hT:SlT P t e size bytes z)(hw:Region.wanted o (yielded ops a.tmps)=true)
  (ho:o.op= .call {callee:=.builtin .append,args:=#[s,x],argTypes:=#[t,t]}) (hs:a.eval s= .slice A n c) {c':Nat} (hx:a.eval x= .slice A' m c')
  (Hl:Own w base e size A n c xs) (hr:Rd w B size A' m c' news) (h1:∀u∈news,u.oneCell'=true) (fG:n+m≤c) (Hf:base≤w.heap.size)
  (h:∀w',Own w' base e size A (n+m) c (xs++news)→w.grownBy w' (blk A)→wpList P ops Q rest (a.put o.dst (.slice A (n+m) c)) w'):
  wpList P ops Q (o::rest) a w:=by
 have qqdl:=();exact Z35_
theorem qj{ops:Array Oper}{rest:List Oper}{o:Oper}{a:Act}{Q:Exit→Act→World→Prop}{s x:Operand}{u:TypeId}(hT:SlT P t e 1 1 (.int .u8 0))(hu:P.underlying u=some .string)(hw:Region.wanted o (yielded ops a.tmps)=true)
  (ho:o.op= .call {callee:=.builtin .append,args:=#[s,x],argTypes:=#[t,u]}) (hs:a.eval s= .slice A n c) {l:List UInt8} (hx:a.eval x= .string (str l))
  (Hl:Own w base e 1 A n c xs) (Bw:n+l.length≤140737488355328) (Hf:base≤w.heap.size)
  (h:∀A2 c2 w',Own w' base e 1 A2 (n+l.length) c2 (xs++l.map u8v)→w.grownBy w' (blk A)→wpList P ops Q rest (a.put o.dst (.slice A2 (n+l.length) c2)) w'):
  wpList P ops Q (o::rest) a w:=by
 exact Z2e_
theorem Ky{ops:Array Oper}{rest:List Oper}{o:Oper}{a:Act}{Q:Exit→Act→World→Prop}{l c:Operand}(hT:SlT P t e size bytes z)(hw:Region.wanted o (yielded ops a.tmps)=true)
  (ho:o.op= .makeSlice t l c) {kl kc:IntKind} {L C:Int} (n cap:Nat) (hl:a.eval l= .int kl L) (hc:a.eval c= .int kc C) (hL:L=(n:Int)) (hC:C=(cap:Int)) (iy:n≤cap)
  (Bw:bytes*cap≤281474976710656) (Dq:cap≤maxLen) (base:Nat) (Hf:base≤w.heap.size)
  (h:∀w',Own w' base e size (some ⟨w.heap.size,0,none⟩) n cap ((madeCells z.cells (cap*size)).toList.take (n*size))→w.grownBy w' none→wpList P ops Q rest (a.put o.dst (.slice (some ⟨w.heap.size,0,none⟩) n cap)) w'):
  wpList P ops Q (o::rest) a w:=by
 refine BigFrame.wpList_want hw fun K hK=>?_
 obtain⟨i,hi,hz,hs,dT⟩:=hT.i;have aS:cap≤9223372036854775807:=by simpa[maxLen]using Dq
 have nF:(i.bytes:Int)*(cap:Int)≤281474976710656:=by
  have h:((i.bytes*cap:Nat):Int)≤281474976710656:=by rw[dT];omega
  rwa[Int.natCast_mul]at h
 have hr:=run_make (P:=P) w t e i z hT.u hi hz kl kc (n:Int) (cap:Int) Wq Wq nF Wq;simp only[Int.toNat_natCast,hs]at hr;subst hL hC;unfold Oper.wp execOp;simp only[ho,hl,hc,Sem.run_bind,Sem.run_pure,Result.andThen_ok,hr];refine hK _ _ (h _ ⟨?_,.inr ⟨w.heap.size,cap,_,rfl,Hf,heap_alloc_new w _,iy,Dq,size_madeCells _ _,rfl⟩⟩ (World.grownBy_alloc w _ none));rw[Vy,Array.length_toList,size_madeCells];exact q8 (q9 _ iy)
def Bd(o:Option Value)(dflt k:Nat):Prop:=(o=none∧k=dflt)∨∃kd X,o=some (.int kd X)∧X=(k:Int)
def cutA(A:Option Addr)(size l m:Nat):Option Addr:=if m=l then A else A.map (·.add (l*size))
theorem zb5(A:Option Addr)(size l m:Nat):cutA A size l m=A∨cutA A size l m=A.map (·.add (l*size)):=by unfold cutA;split<;>simp
theorem jw(A:Option Addr)(size l m:Nat):blk (cutA A size l m)=blk A:=by
 unfold cutA;split
 ·rfl
 cases A with
 | none=>rfl
 | some a=>simp only[Option.map_some,blk];congr 1;unfold Addr.add;split<;>rfl
theorem kU(hT:SlT P t e size bytes z)(w:World){A:Option Addr}{n c:Nat}(gC:c≤maxLen)(iy:n≤c){lo hi mx:Option Value}(l h m:Nat)(fC:Bd lo 0 l)(mT:Bd hi n h)(m4:Bd mx c m)(um:mx.isSome=true→hi.isSome=true)(h1:l≤h)(h2:h≤m)(h3:m≤c)(h4:h≤n):
  (Instr.sliceAt t (.slice A n c) lo hi mx).run P w= .ok (.slice (cutA A size l m) (h-l) (m-l)) w:=by
 unfold cutA;obtain⟨i,hi',hz,hs,dT⟩:=hT.i;have BE:P.elem t=e:=by simp[Program.elem,hT.u]
 have T0:P.underlying t=some (.slice (P.elem t)):=by rw[BE];exact hT.u
 have hb:(Instr.sliceBounds true n c lo hi mx).run P w= .ok (l,h,m) w:=by
  have pf:∀code,mx=none∧m=c∨∃v,mx=some v∧(Instr.sliceBound v c code).run P w= .ok m w:=by
   intro code;rcases m4 with⟨h,e⟩|⟨kd,X,rfl,rfl⟩
   ·exact .inl ⟨h,e⟩
   exact .inr ⟨_,rfl,by rw[run_sliceBound w kd _ c code Wq Wq];simp⟩
  have TY:∀code y,h≤y→hi=none∧h=n∨∃v,hi=some v∧(Instr.sliceBound v y code).run P w= .ok h w:=by
   intro code y hy;rcases mT with⟨h,e⟩|⟨kd,X,rfl,rfl⟩
   ·exact .inl ⟨h,e⟩
   exact Z60_
  have iV:∀code y,l≤y→lo=none∧l=0∨∃v,lo=some v∧(Instr.sliceBound v y code).run P w= .ok l w:=by
   intro code y hy;rcases fC with⟨h,e⟩|⟨kd,X,rfl,rfl⟩
   ·exact .inl ⟨h,e⟩
   exact Z60_
  unfold Instr.sliceBounds;rcases pf .slice3Acap with⟨rfl,rfl⟩|⟨vm,rfl,em⟩
  ·rcases TY .sliceAcap m h2 with⟨rfl,rfl⟩|⟨vh,rfl,eh⟩
   ·rcases iV .sliceB h h1 with⟨rfl,rfl⟩|⟨vl,rfl,el⟩
    ·simp[Sem.run_pure]
    simp[Result.andThen,el]
   rcases iV .sliceB h h1 with⟨rfl,rfl⟩|⟨vl,rfl,el⟩
   ·simp[Result.andThen,eh]
   simp[Sem.run_bind,Result.andThen,eh,el]
  rcases TY .slice3B m h2 with⟨rfl,rfl⟩|⟨vh,rfl,eh⟩
  ·simp at um
  rcases iV .slice3C h h1 with⟨rfl,rfl⟩|⟨vl,rfl,el⟩
  ·simp[Sem.run_bind,Result.andThen,em,eh]
  simp[Sem.run_bind,Result.andThen,em,eh,el]
 rw[run_sliceAt_slice w t _ _ _ _ T0,run_slice_any w t A n c T0,hb];simp[Result.andThen,sizeOf,typeInfo,BE,hi',hs,sliced]
theorem kV(hr:Rd w B size A n c xs)(l h m:Nat)(h1:l≤h)(h2:h≤m)(h3:m≤c)(h4:h≤n):Rd w B size (cutA A size l m) (h-l) (m-l) ((xs.take (h*size)).drop (l*size)):=by
 unfold cutA;refine⟨?_,by omega,by have:=hr.max;omega,fun nA=>?_⟩
 ·have bQ:=hr.len;rw[List.length_drop,Vy,bQ,q8 (q9 _ h4),Nat.sub_mul]
 obtain⟨b,off,rfl,hb,hc⟩:=hr.at_ Wq;rw[if_neg Wq];have nM:(⟨b,off,none⟩:Addr).add (l*size)=⟨b,off+l*size,none⟩:=by unfold Addr.add;split<;>simp_all
 refine⟨b,off+l*size,by simp[nM],hb,fun j u hu=>?_⟩;rw[List.getElem?_drop,List.getElem?_take]at hu;split at hu
 ·rw[kI];exact hc _ u hu
 cases hu
theorem zb6(hT:SlT P t e size bytes z)(hr:Rd w B size A n c xs){lo hi mx:Option Value}(l h m:Nat)(fC:Bd lo 0 l)(mT:Bd hi n h)(m4:Bd mx c m)(um:mx.isSome=true→hi.isSome=true)(h1:l≤h)(h2:h≤m)(h3:m≤c)(h4:h≤n):
  ∃A',(Instr.sliceAt t (.slice A n c) lo hi mx).run P w= .ok (.slice A' (h-l) (m-l)) w∧Rd w B size A' (h-l) (m-l) ((xs.take (h*size)).drop (l*size))∧(A'=A∨A'=A.map (·.add (l*size))):=
 ⟨_,kU hT w hr.max hr.cap l h m fC mT m4 um h1 h2 h3 h4,kV hr l h m h1 h2 h3 h4,zb5 _ _ _ _⟩
theorem zbL{ops:Array Oper}{rest:List Oper}{o:Oper}{a:Act}{Q:Exit→Act→World→Prop}{x:Operand}{lo hi mx:Option Operand}(hT:SlT P t e size bytes z)(hw:Region.wanted o (yielded ops a.tmps)=true)
  (ho:o.op= .slice t x lo hi mx) (hx:a.eval x= .slice A n c) (hr:Rd w B size A n c xs) (l h m:Nat) (fC:Bd (lo.map a.eval) 0 l) (mT:Bd (hi.map a.eval) n h) (m4:Bd (mx.map a.eval) c m) (um:mx.isSome=true→hi.isSome=true)
  (h1:l≤h) (h2:h≤m) (h3:m≤c) (h4:h≤n)
  (hk:∀A',Rd w B size A' (h-l) (m-l) ((xs.take (h*size)).drop (l*size))→wpList P ops Q rest (a.put o.dst (.slice A' (h-l) (m-l))) w):
  wpList P ops Q (o::rest) a w:=by
 refine BigFrame.wpList_want hw fun K hK=>?_
 obtain⟨A',bu,i5,_⟩:=zb6 hT hr l h m fC mT m4 (by simpa using um) h1 h2 h3 h4;unfold Oper.wp execOp;simp only[ho,hx,Sem.run_bind,Sem.run_pure,Result.andThen_ok,bu];exact hK _ _ (hk A' i5)
theorem jk{src dst e:TypeId}(h1:P.underlying src=some (.slice e))(h2:P.underlying dst=some .string)(h3:P.underlying e=some (.int .u8)){l:List UInt8}(hr:RdB w B A n c l):
  (convert src dst (.slice A n c)).run P w= .ok (.string (str l)) w:=by
 have hl:=hr.length;rcases A with _|ad
 ·have hm:n=0:=by
   rcases Nat.eq_zero_or_pos n with h0|h0
   ·exact h0
   obtain⟨b,off,e,_⟩:=hr.at_ h0;cases e
  subst hm;have hn:l=[]:=Vx hl;subst hn;simp[convert,run_underlying h1,run_underlying h2,run_underlying h3,Conv.bytesToString];rfl
 rw[run_convert_bytes_string w src dst e (some ad) n c h1 h3 h2]
 have ix:∀j u,(l.map u8v)[j]?=some u→w.cell? (ad.add j)=some u:=by
  have qqhl:=();exact Z3v_
 have Gn:=run_loadCells_list (P:=P) w ad (l.map u8v) ix;have hm:(l.map u8v)=(l.map fun x=>(x.toNat:Int)).map (Value.int .u8):=by simp[u8v]
 rw[kv,hl,hm]at Gn;rw[run_bytesToString (P:=P) w ad n c (l.map fun x=>(x.toNat:Int)) Gn]
 have hf:∀(l:List UInt8) (s:ByteArray),(l.map fun x=>(x.toNat:Int)).foldl (fun r n=>r.push (Q2 n.toNat)) s=⟨s.data++l.toArray⟩:=by
  intro l
  induction l with
  | nil=>intro s;simp
  | cons x l ih=>intro s;simp only[K0,K1,ih];simp[ByteArray.push]
 rw[hf];show Result.ok (Value.string ⟨#[]++l.toArray⟩) w=_
 rw[Array.empty_append];rfl
theorem za{B:Nat}{a w:World}(h:Below B a w)(n:Nat):Below B a (w.drewN n):=⟨h.os,h.tape,h.output,h.size,h.block⟩
theorem Own.drewN(h:Own w base e size A n c xs)(k:Nat):Own (w.drewN k) base e size A n c xs:=h
theorem Rd.drewN(h:Rd w B size A n c xs)(k:Nat):Rd (w.drewN k) B size A n c xs:=h.keep fun _ _=>rfl
theorem Rd.drew(h:Rd w B size A n c xs):Rd w.drew B size A n c xs:=h.keep fun _ _=>rfl
theorem QP(w:World)(cs:Array Value)(e:TypeId)(fr:Nat×Nat)(n c:Nat)(hs:cs.size=n*size)(hc:n≤c)(hm:c≤maxLen):
  Rd (w.alloc (.cells cs e fr)) (w.alloc (.cells cs e fr)).heap.size size (some ⟨w.heap.size,0,none⟩) n c cs.toList:=by
 refine⟨by simpa using hs,hc,hm,fun _=>⟨w.heap.size,0,rfl,by simp,fun j u hu=>?_⟩⟩;rw[VB,cell_of_row _ w.heap.size j cs e fr (heap_alloc_new w _)];simpa using hu
theorem yn{w:World}(base:Nat)(cs:Array Value)(e n:Nat)(hb:base≤w.heap.size)(hm:n≤maxLen)(hs:cs.size=n*size)(_hpos:0<size):
  Own (w.alloc (.cells cs e)) base e size (some ⟨w.heap.size,0,none⟩) n n cs.toList:=World.ownsRow_lit w cs n hb hm hs
theorem zM(l:List UInt8):∀u∈l.map u8v,u.oneCell'=true:=by simp[zb4]
theorem OwnB.at_k{l:List UInt8}(h:Own w base e 1 A n c (l.map u8v)){k:Nat}(hk:k<n):∃g,A=some ⟨g,0,none⟩∧base≤g∧g<w.heap.size∧∃hl:k<l.length,w.cell? ⟨g,k,none⟩=some (.int .u8 (l[k].toNat:Int))∧
  w.frozen? ⟨g,k,none⟩=false∧∀x:UInt8,Own (w.setCell ⟨g,k,none⟩ (u8v x)) base e 1 A n c ((l.set k x).map u8v):=by
 have bQ:l.length=n:=by have:=h.1;simpa using this
 rcases h.2 with⟨hv,rfl⟩|⟨g,cap,cur,hv,hb,hh,_⟩
 ·omega
 injection hv with e1 e2 e3
 subst e1 e3;refine⟨g,rfl,hb,(Array.getElem?_eq_some_iff.1 hh).1,by omega,?_,h.frozenAt k,fun x=>?_⟩
 ·rw[h.cellAt k Wq,q7,KS Wq];rfl
 have:=(h.stored k (u8v x)).1;rwa[←List.map_set]at this
theorem OwnB.length{l:List UInt8}(h:Own w base e 1 A n c (l.map u8v)):l.length=n:=by have:=h.1;simpa using this
end
def k_A:Op→Bool
  | .call c=>match c.callee with
    | .builtin .append=>true
    | .builtin .copy=>true
    | _=>false
  | .makeSlice _ _ _=>true
  | _=>false
def k_B:Op→Bool
  | .store _ _ _=>true
  | o=>k_A o
def k_S:Op→Bool
  | .slice _ _ _ _ _=>true
  | o=>k_A o
def k_M:Op→Bool
  | .insert _ _ _ _=>true
  | .range _ _=>true
  | .next _ _=>true
  | o=>k_A o
section
variable {P : Program} {ops : Array Oper} {Q : Exit → Act → World → Prop} {rest : List Oper} {a : Act} {w : World} {o : Oper}
theorem h_A(h:Hold (wpList P ops Q (o::rest) a w))(_hs:k_A o.op=true:=by decide):wpList P ops Q (o::rest) a w:=h
theorem h_B(h:Hold (wpList P ops Q (o::rest) a w))(_hs:k_B o.op=true:=by decide):wpList P ops Q (o::rest) a w:=h
theorem h_S(h:Hold (wpList P ops Q (o::rest) a w))(_hs:k_S o.op=true:=by decide):wpList P ops Q (o::rest) a w:=h
theorem h_M(h:Hold (wpList P ops Q (o::rest) a w))(_hs:k_M o.op=true:=by decide):wpList P ops Q (o::rest) a w:=h
end
theorem g_S:(∀(α:Type) (l:List α) (i:Nat) (h:i<l.toArray.size),l.toArray[i]=l[i]'NQ)∧(∀(α:Type) (x:α) (l:List α) (i:Nat) (h:i+1<(x::l).length),(x::l)[i+1]=l[i]'NQ)∧(∀(α:Type) (x:α) (l:List α) (h:0<(x::l).length),(x::l)[0]=x)∧
    (∀(α:Type) (l:List α) (i:Nat) (x:α),l.toArray.setIfInBounds i x=(l.set i x).toArray)∧(∀(α:Type) (x y:α) (l:List α),(x::l).set 0 y=y::l)∧(∀(α:Type) (x y:α) (l:List α) (i:Nat),(x::l).set (i+1) y=x::l.set i y)∧(∀(a:Act) (v:Value),a.put none v=a)∧(∀(a:Act) (t:Nat) (v:Value),a.put (some t) v={a with tmps:=a.tmps.setIfInBounds t v}):=
  ⟨fun _ _ _ _=>rfl,fun _ _ _ _ _=>rfl,fun _ _ _ _=>rfl,fun _ _ _ _=>by simp,fun _ _ _ _=>rfl,fun _ _ _ _ _=>rfl,fun _ _=>rfl,fun _ _ _=>rfl⟩
end Go.PH
end
section
namespace Go.PH
open Go.RowKit
section
variable {P : Program} {ops : Array Oper} {Q : Exit → Act → World → Prop} {rest : List Oper} {a : Act} {w : World} {dst : Option Tmp} {ty : TypeId} {pos : String} {after : Array Edge} {guard : Option (Nat × Bool)}
end
theorem zm{H:Type}{P:Program}(w:World){ops:Array Oper}{rest:List Oper}{o:Oper}{a:Act}{Q:Exit→Act→World→Prop}
  (hg:o.guard=none) (m x v:Operand) (t:TypeId) (cR:o.op=Op.insert t m x v)
  (k e:TypeId) (K:Maps.Keyed P k) (ht:P.underlying t=some (.map k e)) (R:Value→Option (DataW H×List MemPlace)) (b n:Nat) (D:DataW H)
  (hm:a.eval m= .map (some b)) (Hl:w.ownsMap P k R b n D) (hn:n<maxLen) (key val:Value) (kl:Lit) (hx:a.eval x=key) (hv:a.eval v=val) (eL:keyOf P k key=some kl)
  (d:DataW H) (ps:List MemPlace) (EY:R val=some (d,ps))
  (hK:∀w',w'.ownsMap P k R b (n+1) (D.put kl d)→w.grownBy w' (some b)→wpList P ops Q rest (a.put o.dst undef) w'):
  wpList P ops Q (o::rest) a w:=by
 refine wpList_plain hg fun K' WE=>?_
 obtain⟨w',bu,r1,r2⟩:=Hl.update K ht hn eL EY;unfold Oper.wp;simp[execOp,cR,hm,hx,hv,bu,Result.andThen];exact WE _ _ (hK w' r1 r2)
end Go.PH
end
section
namespace Go.PH
open Go.RowKit Go.WideElems Go.ChangeMaps Go.MapKept
variable {H : Type} {P : Program} {w : World} {t k e : TypeId} {R : Value → Option (DataW H × List MemPlace)} {b n : Nat} {D : DataW H}
end Go.PH
end
section
namespace Go.PH
open Go.RowKit
section
variable {P : Program} {w w' : World} {base e size bytes t n c m B : Nat} {A A' : Option Addr} {xs news : List Value} {z : Value}
theorem kD{ops:Array Oper}{rest:List Oper}{o:Oper}{a:Act}{Q:Exit→Act→World→Prop}{x:Operand}{lo hi mx:Option Operand}(hT:SlT P t e size bytes z)(hw:Region.wanted o (yielded ops a.tmps)=true)
  (ho:o.op= .slice t x lo hi mx) (hx:a.eval x= .slice A n c) (hr:Rd w B size A n c xs) (l h m:Nat) (fC:Bd (lo.map a.eval) 0 l) (mT:Bd (hi.map a.eval) n h) (m4:Bd (mx.map a.eval) c m) (um:mx.isSome=true→hi.isSome=true)
  (h1:l≤h) (h2:h≤m) (h3:m≤c) (h4:h≤n)
  (hk:∀A',Rd w B size A' (h-l) (m-l) ((xs.take (h*size)).drop (l*size))→blk A'=blk A→wpList P ops Q rest (a.put o.dst (.slice A' (h-l) (m-l))) w):
  wpList P ops Q (o::rest) a w:=by
 refine BigFrame.wpList_want hw fun K hK=>?_
 have bu:=kU (A:=A) hT w hr.max hr.cap l h m fC mT m4 (by simpa using um) h1 h2 h3 h4;unfold Oper.wp execOp;simp only[ho,hx,Sem.run_bind,Sem.run_pure,Result.andThen_ok,bu];exact hK _ _ (hk _ (kV hr l h m h1 h2 h3 h4) (jw _ _ _ _))
theorem Own.base_le{base' c:Nat}(h:Own w base e size A n c xs)(hb:base'≤base):Own w base' e size A n c xs:=
 ⟨h.1,h.2.imp id fun⟨g,cap,cur,h1,h2,h3⟩=>⟨g,cap,cur,h1,q0 hb h2,h3⟩⟩
theorem RdB.cut{l:List UInt8}{c lo k:Nat}(hr:RdB w B A n c l)(h:lo+k≤n):RdB w B (cutA A 1 lo c) k (c-lo) ((l.drop lo).take k):=by
 have h1:=kV hr lo (lo+k) c Wq (by have:=hr.cap;omega) (Q1 _) h
 have e:(((l.map u8v).take ((lo+k)*1)).drop (lo*1))=((l.drop lo).take k).map u8v:=by
  rw[K2,K2,←List.map_take,←List.map_drop,List.drop_take,ky]
 rw[e,ky]at h1;exact h1
end
end Go.PH
end
section
namespace Go.PH
open Go.RowKit
section
variable {P : Program} {w w' : World} {base e t n c : Nat} {A : Option Addr} {xs : List Value}
theorem jm(hl:xs.length=n)(l:List UInt8)(C:Nat)(hC:n+l.length≤C)(hm:C≤maxLen)(Hf:base≤w.heap.size):
  Own (w.drew.alloc (.cells (xs.toArray++(l.map u8v).toArray++Builtin.zeroCells (Value.int .u8 0).cells (C-(n+l.length))) e)) base e 1 (some ⟨w.heap.size,0,none⟩) (n+l.length) C (xs++l.map u8v):=by
 refine⟨by simp[hl],.inr ⟨w.heap.size,C,_,rfl,Hf,heap_alloc_new w.drew _,hC,hm,?_,?_⟩⟩
 ·have h1:(Value.int IntKind.u8 0).cells.size=1:=rfl;simp only[Array.size_append,List.size_toArray,size_zeroCells,h1,hl,kv];omega
 rw[Array.toList_append,Array.toList_append,K2];simp only[];rw[kx (by simp[hl]),k0 (by simp[hl])]
theorem jV{g cap:Nat}{cur:Array Value}(hg:w.heap[g]?=some (.cells cur e (0,0)))(fX:cur.size=cap)(hx:cur.toList.take n=xs)(hn:xs.length=n)(l:List UInt8)(fG:n+l.length≤cap)(hm:cap≤maxLen)(hb:base≤g):
  Own (w.setRow g (cur.toList.take n++l.map u8v++cur.toList.drop (n+l.length)).toArray) base e 1 (some ⟨g,0,none⟩) (n+l.length) cap (xs++l.map u8v):=by
 refine⟨by simp[hn],.inr ⟨g,cap,_,rfl,hb,setRow_heap w g cur _ e _ hg,fG,hm,?_,?_⟩⟩
 ·simp;omega
 rw[hx,K2];simp only[];rw[kx (by simp[hn]),k0 (by simp[hn])]
theorem jC{ops:Array Oper}{rest:List Oper}{o:Oper}{a:Act}{Q:Exit→Act→World→Prop}{s x:Operand}{u:TypeId}(hT:SlT P t e 1 1 (.int .u8 0))(hu:P.underlying u=some .string)(hw:Region.wanted o (yielded ops a.tmps)=true)
  (ho:o.op= .call {callee:=.builtin .append,args:=#[s,x],argTypes:=#[t,u]}) (hs:a.eval s= .slice A n c) {l:List UInt8} (hx:a.eval x= .string (str l))
  (Hl:Own w base e 1 A n c xs) (hhr:l.length≤140737488355328) (Bw:(n+l.length)+(n+l.length) / 4+192≤281474976710656) (Hf:base≤w.heap.size)
  (h:∀A2 c2 w',Own w' base e 1 A2 (n+l.length) c2 (xs++l.map u8v)→w.grownBy w' (blk A)→wpList P ops Q rest (a.put o.dst (.slice A2 (n+l.length) c2)) w'):
  wpList P ops Q (o::rest) a w:=by
 have qq70:=();exact Z15_
end
end Go.PH
end
section
namespace Go.PH
open Go.RowKit
section
variable {P : Program} {w w' : World} {base e size bytes t t2 n c m B : Nat} {A A' : Option Addr} {xs news : List Value} {z : Value}
theorem Zl{e2:TypeId}(h1:P.underlying t=some (.slice e))(h2:P.underlying t2=some (.slice e2))(ty:TypeId)(u v:Value)(w:World):
  (Builtin.append_ #[t,t2] ty #[u,v]).run P w=(Builtin.append_ #[t,t] ty #[u,v]).run P w:=by
 cases u<;>simp[Builtin.append_,run_underlying h1,run_underlying h2]
theorem jL{ops:Array Oper}{o:Oper}{a:Act}{K:Act→World→Prop}{Q:Exit→Act→World→Prop}{s x:Operand}{e2:TypeId}(hT:SlT P t e size bytes z)(h2:P.underlying t2=some (.slice e2))
  (ho:o.op= .call {callee:=.builtin .append,args:=#[s,x],argTypes:=#[t,t2]}) (hs:a.eval s= .slice A n c) {c':Nat} (hx:a.eval x= .slice A' m c')
  (Hl:Own w base e size A n c xs) (hr:Rd w B size A' m c' news) (h1:∀u∈news,u.oneCell'=true)
  (Bw:(n+m)*bytes≤140737488355328) (Dq:n+m≤maxLen) (Hf:base≤w.heap.size)
  (h:∀A2 c2 w',Own w' base e size A2 (n+m) c2 (xs++news)→w.grownBy w' (blk A)→(blk A2=blk A∨blk A2=some w.heap.size)→K (a.put o.dst (.slice A2 (n+m) c2)) w'):
  o.wp P a w K Q:=by
 obtain⟨A2,c2,w',bu,OO,h3,h4⟩:=Kx hT o.type Hl hr h1 Bw Dq Hf;unfold Oper.wp execOp;simp only[ho,resolve,invoke,builtin,Sem.run_bind,Sem.run_pure,Result.andThen_ok,q1,K0,q2,hs,hx,Zl hT.u h2,bu];exact h A2 c2 w' OO h3 h4
end
end Go.PH
end
section
namespace Go.PH
open Go.RowKit
section
variable {P : Program} {w w' : World} {g : Nat} {t : TypeId} {cs : Array Value}
def Box(w:World)(g:Nat)(t:TypeId)(cs:Array Value):Prop:=w.heap[g]?=some (.cells cs t (0,0))
theorem Box.new(w:World)(cs:Array Value)(t:TypeId):Box (w.alloc (.cells cs t)) w.heap.size t cs:=by
 show(w.heap.push _)[w.heap.size]?=_
 simp
theorem Box.lt(h:Box w g t cs):g<w.heap.size:=(Array.getElem?_eq_some_iff.1 h).1
theorem Box.grown(h:Box w g t cs){row:Option Nat}(hg:w.grownBy w' row)(hne:some g≠row):Box w' g t cs:=(hg.block g h.lt hne).trans h
theorem Box.below(h:Box w g t cs)(hB:Below w.heap.size w w'):Box w' g t cs:=(hB.block g h.lt).trans h
theorem Box.alloc(h:Box w g t cs)(o:Obj):Box (w.alloc o) g t cs:=(Below.heap_alloc w o g h.lt).trans h
theorem Box.cell(h:Box w g t cs){j:Nat}{u:Value}(hj:cs[j]?=some u):w.cell? ⟨g,j,none⟩=some u:=by
 unfold Box at h;simp[World.cell?,h,hj]
theorem Box.thaw(h:Box w g t cs)(j:Nat):w.frozen? ⟨g,j,none⟩=false:=by
 unfold Box at h;simp[World.frozen?,h]
theorem zaC(w:World)(g:Nat)(cs:Array Value):w.grownBy (w.setRow g cs) (some g):=
 ⟨rfl,rfl,rfl,by simp,fun k _ hk=>setRow_other w g k cs (fun e=>hk (by rw[e]))⟩
theorem Y7{ty:TypeId}{v:Value}{j:Nat}{vs:List Value}{cs':Array Value}(hb:Box w g t cs)(hv:v.cells.toList=vs)(hi:(P.info? ty).map (·.size)=some vs.length)(hj:j+vs.length≤cs.size)
  (h1:∀u∈vs,u.oneCell'=true) (hc:cs'=(cs.toList.take j++vs++cs.toList.drop (j+vs.length)).toArray):
  (Instr.storeAt ty (.pointer (some ⟨g,j,none⟩)) v).run P w= .ok () (w.setRow g cs'):=by
 have:=run_storeCells_at (P:=P) g j t vs 0 cs w hb (by simpa using hj) h1
 cases hq:P.info? ty with
 | none=>simp[hq]at hi
 | some i=>
  have hs:v.cells.size=i.size:=by rw[hq]at hi;simp at hi;rw[hi,←hv];simp
  subst hc;simp[Instr.storeAt,Instr.sureAddr,storeVar,sizeOf,typeInfo,hq,hs,hv,this]
theorem Box.row(hb:Box w g t cs)(cs':Array Value):Box (w.setRow g cs') g t cs':=setRow_heap w g cs cs' t _ hb
variable {ops : Array Oper} {Q : Exit → Act → World → Prop} {rest : List Oper} {a : Act} {dst : Option Tmp} {ty : TypeId} {pos : String} {after : Array Edge} {guard : Option (Nat × Bool)}
theorem xr{t:TypeId}{x y:Operand}(h:Hold (wpList P ops Q (⟨dst,.store t x y,ty,pos,after,guard⟩::rest) a w)):
  wpList P ops Q (⟨dst,.store t x y,ty,pos,after,guard⟩::rest) a w:=h
theorem zK{o:Oper}{K:Act→World→Prop}{x y:Operand}{v:Value}{j:Nat}{vs:List Value}(ho:o.op= .store ty x y)(hx:a.eval x= .pointer (some ⟨g,j,none⟩))(hy:a.eval y=v)
  (hb:Box w g t cs) (hv:v.cells.toList=vs) (hi:(P.info? ty).map (·.size)=some vs.length) (hj:j+vs.length≤cs.size) (h1:∀u∈vs,u.oneCell'=true) (cs':Array Value) (hc:cs'=(cs.toList.take j++vs++cs.toList.drop (j+vs.length)).toArray)
  (h:∀w',Box w' g t cs'→w.grownBy w' (some g)→w'.heap.size=w.heap.size→K (a.put o.dst undef) w'):o.wp P a w K Q:=by
 unfold Oper.wp execOp;simp only[ho,hx,hy,Sem.run_bind,Sem.run_pure,Result.andThen_ok,Y7 hb hv hi hj h1 hc];exact h _ (hb.row _) (zaC _ _ _) Wz
theorem zn{o:Oper}{x y:Operand}{v:Value}{j:Nat}{vs:List Value}(hw:Region.wanted o (yielded ops a.tmps)=true)(ho:o.op= .store ty x y)(hx:a.eval x= .pointer (some ⟨g,j,none⟩))(hy:a.eval y=v)
  (hb:Box w g t cs) (hv:v.cells.toList=vs) (hi:(P.info? ty).map (·.size)=some vs.length) (hj:j+vs.length≤cs.size) (h1:∀u∈vs,u.oneCell'=true) (cs':Array Value) (hc:cs'=(cs.toList.take j++vs++cs.toList.drop (j+vs.length)).toArray)
  (h:∀w',Box w' g t cs'→w.grownBy w' (some g)→w'.heap.size=w.heap.size→wpList P ops Q rest (a.put o.dst undef) w'):wpList P ops Q (o::rest) a w:=
 BigFrame.wpList_want hw fun K hK=>zK ho hx hy hb hv hi hj h1 cs' hc fun w' h1 h2 h3=>hK _ _ (h w' h1 h2 h3)
theorem zG{fn:Func}{R:Ending→World→Prop}{a:Act}{w:World}{g:Nat}{t ty:TypeId}{cs:Array Value}{p u:Tmp}{v:Value}{d:TypeDesc}(Bu:fn.results= #[.cell p ty,.tmp u])(hb:Box w g t cs)
  (hp:a.tmps.getD p undef= .pointer (some ⟨g,0,none⟩)) (hv:a.tmps.getD u undef=v) (hu:P.underlying ty=some d) (hd:(match d with| .struct _| .array _ _=>true|_=>false)=true) (hi:(P.info? ty).map (·.size)=some cs.size)
  (Cz:a.defers=[]) (hR:R (.returned (.tuple #[.agg cs,v])) w):bodyPost P fn R .ret a w:=by
 refine bodyPost_ret (v:=.tuple #[.agg cs,v]) ?_ Cz hR;rw[results_cell_tmp Bu,hp,hv];exact Z64_
end
theorem sne{a b:Nat}(h:a≠b):some a≠some b:=fun e=>h NX
theorem Box.c0{w:World}{g:Nat}{t:TypeId}{cs:Array Value}{u:Value}(h:Box w g t cs)(hj:cs[0]?=some u:=by rfl):w.cell? ⟨g,0,none⟩=some u:=h.cell hj
theorem Box.c1{w:World}{g:Nat}{t:TypeId}{cs:Array Value}{u:Value}(h:Box w g t cs)(hj:cs[1]?=some u:=by rfl):w.cell? ⟨g,1,none⟩=some u:=h.cell hj
theorem Box.c2{w:World}{g:Nat}{t:TypeId}{cs:Array Value}{u:Value}(h:Box w g t cs)(hj:cs[2]?=some u:=by rfl):w.cell? ⟨g,2,none⟩=some u:=h.cell hj
theorem Box.c3{w:World}{g:Nat}{t:TypeId}{cs:Array Value}{u:Value}(h:Box w g t cs)(hj:cs[3]?=some u:=by rfl):w.cell? ⟨g,3,none⟩=some u:=h.cell hj
theorem Box.c4{w:World}{g:Nat}{t:TypeId}{cs:Array Value}{u:Value}(h:Box w g t cs)(hj:cs[4]?=some u:=by rfl):w.cell? ⟨g,4,none⟩=some u:=h.cell hj
theorem Box.c5{w:World}{g:Nat}{t:TypeId}{cs:Array Value}{u:Value}(h:Box w g t cs)(hj:cs[5]?=some u:=by rfl):w.cell? ⟨g,5,none⟩=some u:=h.cell hj
theorem Box.c6{w:World}{g:Nat}{t:TypeId}{cs:Array Value}{u:Value}(h:Box w g t cs)(hj:cs[6]?=some u:=by rfl):w.cell? ⟨g,6,none⟩=some u:=h.cell hj
theorem Box.c7{w:World}{g:Nat}{t:TypeId}{cs:Array Value}{u:Value}(h:Box w g t cs)(hj:cs[7]?=some u:=by rfl):w.cell? ⟨g,7,none⟩=some u:=h.cell hj
theorem Box.c8{w:World}{g:Nat}{t:TypeId}{cs:Array Value}{u:Value}(h:Box w g t cs)(hj:cs[8]?=some u:=by rfl):w.cell? ⟨g,8,none⟩=some u:=h.cell hj
theorem Box.c9{w:World}{g:Nat}{t:TypeId}{cs:Array Value}{u:Value}(h:Box w g t cs)(hj:cs[9]?=some u:=by rfl):w.cell? ⟨g,9,none⟩=some u:=h.cell hj
theorem Box.c10{w:World}{g:Nat}{t:TypeId}{cs:Array Value}{u:Value}(h:Box w g t cs)(hj:cs[10]?=some u:=by rfl):w.cell? ⟨g,10,none⟩=some u:=h.cell hj
theorem Box.c11{w:World}{g:Nat}{t:TypeId}{cs:Array Value}{u:Value}(h:Box w g t cs)(hj:cs[11]?=some u:=by rfl):w.cell? ⟨g,11,none⟩=some u:=h.cell hj
end Go.PH
end
section
namespace Go.PH
open Go.RowKit
theorem kW{fn:Func}{p u v:Tmp}{ty:TypeId}(h:fn.results= #[.cell p ty,.tmp u,.tmp v])(tmps:Array Value)(P:Program)(w:World):
  (results fn tmps).run P w=
   ((asAddr (tmps.getD p undef)).run P w).andThen fun a w₁=>((loadVar ty a).run P w₁).andThen fun x w₂=>.ok (.tuple #[x,tmps.getD u undef,tmps.getD v undef]) w₂:=by
 simp only[results,h];simp[Sem.run_bind,Result.andThen]
theorem zv{P:Program}{fn:Func}{R:Ending→World→Prop}{a:Act}{w:World}{g:Nat}{t ty:TypeId}{cs:Array Value}{p u u2:Tmp}{v v2:Value}{d:TypeDesc}(Bu:fn.results= #[.cell p ty,.tmp u,.tmp u2])(hb:Box w g t cs)
  (hp:a.tmps.getD p undef= .pointer (some ⟨g,0,none⟩)) (hv:a.tmps.getD u undef=v) (ff:a.tmps.getD u2 undef=v2) (hu:P.underlying ty=some d) (hd:(match d with| .struct _| .array _ _=>true|_=>false)=true) (hi:(P.info? ty).map (·.size)=some cs.size)
  (Cz:a.defers=[]) (hR:R (.returned (.tuple #[.agg cs,v,v2])) w):bodyPost P fn R .ret a w:=by
 refine bodyPost_ret (v:=.tuple #[.agg cs,v,v2]) ?_ Cz hR;rw[kW Bu,hp,hv,ff];exact Z64_
end Go.PH
end
section
namespace Go.PH
open Go.RowKit
section
variable {P : Program} {w w' : World} {base e t n c : Nat} {A : Option Addr} {xs : List Value}
theorem Jz{o:Oper}{a:Act}{K:Act→World→Prop}{Q:Exit→Act→World→Prop}{s x:Operand}{u:TypeId}(hT:SlT P t e 1 1 (.int .u8 0))(hu:P.underlying u=some .string)
  (ho:o.op= .call {callee:=.builtin .append,args:=#[s,x],argTypes:=#[t,u]}) (hs:a.eval s= .slice A n c) {l:List UInt8} (hx:a.eval x= .string (str l))
  (Hl:Own w base e 1 A n c xs) (Bw:n+l.length≤140737488355328) (Hf:base≤w.heap.size)
  (h:∀A2 c2 w',Own w' base e 1 A2 (n+l.length) c2 (xs++l.map u8v)→w.grownBy w' (blk A)→K (a.put o.dst (.slice A2 (n+l.length) c2)) w'):
  o.wp P a w K Q:=by
 have qqbd:=();exact Z2e_
theorem zh{w w':World}{base e size n c:Nat}{A:Option Addr}{xs:List Value}(ho:Own w base e size A n c xs)(hB:Below w.heap.size w w'):Own w' base e size A n c xs:=
 ho.kept (row:=none) ⟨hB.os,hB.tape,hB.output,hB.size,fun k hk _=>hB.block k hk⟩ (by cases hv:(Value.slice A n c).ownBlock<;>simp)
theorem zk{w w':World}{base e size n c:Nat}{A:Option Addr}{xs:List Value}{row:Option Nat}(ho:Own w base e size A n c xs)(hg:w.grownBy w' row)(h:∀g,blk A=some g→row≠some g):Own w' base e size A n c xs:=
 ho.kept hg (by
  rw[xh]
  cases hA:blk A with
  | none=>exact .inl rfl
  | some g=>exact .inr fun e=>h g hA e.symm)
end
end Go.PH
end
section
namespace Go.PH
open Go.RowKit
section
variable {P : Program} {fn : Func} {p : Tmp} {ty : TypeId}
theorem ZY(h:fn.results= #[.cell p ty])(tmps:Array Value)(P:Program)(w:World):
  (results fn tmps).run P w=((asAddr (tmps.getD p undef)).run P w).andThen fun a w₁=>(loadVar ty a).run P w₁:=by
 simp only[results,h];simp[Sem.run_bind,Result.andThen]
theorem xH{R:Ending→World→Prop}{a:Act}{w:World}{g:Nat}{t:TypeId}{cs:Array Value}{d:TypeDesc}(Bu:fn.results= #[.cell p ty])(hb:Box w g t cs)
  (hp:a.tmps.getD p undef= .pointer (some ⟨g,0,none⟩)) (hu:P.underlying ty=some d) (hd:(match d with| .struct _| .array _ _=>true|_=>false)=true) (hi:(P.info? ty).map (·.size)=some cs.size)
  (Cz:a.defers=[]) (hR:R (.returned (.agg cs)) w):bodyPost P fn R .ret a w:=by
 refine bodyPost_ret (v:=.agg cs) ?_ Cz hR;rw[ZY Bu,hp];exact Z64_
end
end Go.PH
end
section
namespace Go.PH
open Go.RowKit
section
variable {P : Program} {w w' : World} {base e t n c : Nat} {A : Option Addr} {xs : List Value}
theorem jB{ops:Array Oper}{rest:List Oper}{o:Oper}{a:Act}{Q:Exit→Act→World→Prop}{s x:Operand}{u:TypeId}(hT:SlT P t e 1 1 (.int .u8 0))(hu:P.underlying u=some .string)(hw:Region.wanted o (yielded ops a.tmps)=true)
  (ho:o.op= .call {callee:=.builtin .append,args:=#[s,x],argTypes:=#[t,u]}) (hs:a.eval s= .slice A n c) {l:List UInt8} (hx:a.eval x= .string (str l))
  (Hl:Own w base e 1 A n c xs) (Bw:n+l.length≤100000000000) (Hf:base≤w.heap.size)
  (h:∀A2 c2 w',Own w' base e 1 A2 (n+l.length) c2 (xs++l.map u8v)→w.grownBy w' (blk A)→(blk A2=blk A∨∀g,blk A2=some g→w.heap.size≤g)→wpList P ops Q rest (a.put o.dst (.slice A2 (n+l.length) c2)) w'):
  wpList P ops Q (o::rest) a w:=by
 exact Z15_
end
end Go.PH
end
section
namespace Go.PH
open Go.RowKit
section
variable {P : Program} {w w' : World} {B e t n : Nat} {A : Option Addr} {xs : List Value}
theorem VZ{u:TypeId}(hu:P.underlying u=some .string)(l:List UInt8):Src P 1 u (.string (str l)) l.length (l.map u8v) w:=by
 have h:=Src.ofString (P:=P) w hu (str l);have e1:byteCells (str l)=l.map u8v:=by simp[byteCells,str,u8v]
 rw[e1,zi]at h;exact h
theorem QB{ops:Array Oper}{rest:List Oper}{o:Oper}{a:Act}{Q:Exit→Act→World→Prop}{s x:Operand}{u:TypeId}(hT:SlT P t e 1 1 (.int .u8 0))(hu:P.underlying u=some .string)(hw:Region.wanted o (yielded ops a.tmps)=true)
  (ho:o.op= .call {callee:=.builtin .append,args:=#[s,x],argTypes:=#[t,u]}) (hs:a.eval s= .slice A n n) {l:List UInt8} (hx:a.eval x= .string (str l))
  (hr:Rd w B 1 A n n xs) (hB:B≤w.heap.size) (Bw:n+l.length≤100000000000)
  (h:∀A2 c2 w',Rd w' w'.heap.size 1 A2 (n+l.length) c2 (xs++l.map u8v)→Below w.heap.size w w'→(blk A2=blk A∨∀g,blk A2=some g→w.heap.size≤g∧g<w'.heap.size)→wpList P ops Q rest (a.put o.dst (.slice A2 (n+l.length) c2)) w'):
  wpList P ops Q (o::rest) a w:=by
 obtain⟨i,hi,hz,BZ,dT⟩:=hT.i;have dY:xs.length=n:=by simpa using hr.len
 refine BigFrame.wpList_want hw fun K hK=>?_
 by_cases h0:l.length=0
 ·obtain rfl:l=[]:=Vx h0;have bu:=run_append_nothing (P:=P) w t u o.type e i hT.u hi A n n (Q1 _) (.string (str [])) (by rw[BZ];exact VZ hu []);unfold Oper.wp execOp;simp only[ho,resolve,invoke,builtin,Sem.run_bind,Sem.run_pure,Result.andThen_ok,q1,K0,q2,hs,hx,bu];exact hK _ _ (h A n w (by simpa using hr.more hB) (Below.refl _ _) (.inl rfl))
 have hold:(Builtin.firstCells i.size n (.slice A n n)).run P w.drew= .ok xs.toArray w.drew:=by
  by_cases hn:0<n
  ·obtain⟨b,off,rfl,hb,hc⟩:=hr.at_ hn;exact run_firstCells_some (P:=P) w.drew i.size n ⟨b,off,none⟩ n n xs (by rw[BZ];simpa using dY) (fun j v hj=>by have h5:=hc j v hj;rw[Addr.add_lit];simpa using h5)
  obtain rfl:n=0:=by omega
  have wG:xs=[]:=Vx dY;subst wG
  cases A with
  | none=>exact run_firstCells_none w.drew i.size 0 0 0
  | some b=>exact run_firstCells_some w.drew i.size 0 b 0 0 [] Wz (by intro j v hj;simp at hj)
 have bu:=run_append_grow_src (P:=P) w t u o.type e i (.int .u8 0) hT.u hi hz A n n xs hold (.string (str l)) l.length (l.map u8v) (by rw[BZ];exact VZ hu l) Wq Wq
  (by rw[dT];exact growslice_fits_wide Wq Wq)
 unfold Oper.wp execOp;simp only[ho,resolve,invoke,builtin,Sem.run_bind,Sem.run_pure,Result.andThen_ok,q1,K0,q2,hs,hx,bu];rw[show(xs++l.map u8v).toArray=xs.toArray++(l.map u8v).toArray by simp];have hO:=jm (w:=w) (e:=e) (base:=w.heap.size) dY l (grownCap w (n+l.length) n e) (grownCap_ge _ _ _ _) (grownCap_le_maxLen _ _ _ _ (by simp only[maxLen];omega)) (Q1 _);exact hK _ _ (h _ _ _ hO.rd ((za (Below.refl w.heap.size w) 1).alloc (Q1 _) _) (.inr fun g hg=>by injection hg with hg;exact⟨Nat.le_of_eq hg,by rw[←hg];simp[World.drewN]⟩))
theorem QC{base c:Nat}{ops:Array Oper}{rest:List Oper}{o:Oper}{a:Act}{Q:Exit→Act→World→Prop}{s x:Operand}{u:TypeId}(hT:SlT P t e 1 1 (.int .u8 0))(hu:P.underlying u=some .string)(hw:Region.wanted o (yielded ops a.tmps)=true)
  (ho:o.op= .call {callee:=.builtin .append,args:=#[s,x],argTypes:=#[t,u]}) (hs:a.eval s= .slice A n c) {l:List UInt8} (hx:a.eval x= .string (str l))
  (fY:Own w base e 1 A n c xs∨c=n∧Rd w B 1 A n n xs) (hB:B≤w.heap.size) (Hf:base≤w.heap.size) (Bw:n+l.length≤100000000000) (hA:∀g,blk A=some g→base≤g∧g<w.heap.size)
  (h:∀A2 c2 w',Rd w' w'.heap.size 1 A2 (n+l.length) c2 (xs++l.map u8v)→(Own w base e 1 A n c xs→Own w' base e 1 A2 (n+l.length) c2 (xs++l.map u8v))→w.grownBy w' (blk A)→(blk A2=blk A∨∀g,blk A2=some g→w.heap.size≤g)→(∀g,blk A2=some g→base≤g∧g<w'.heap.size)→wpList P ops Q rest (a.put o.dst (.slice A2 (n+l.length) c2)) w'):
  wpList P ops Q (o::rest) a w:=by
 by_cases hO:Own w base e 1 A n c xs
 ·exact jB hT hu hw ho hs hx hO Bw Hf fun A2 c2 w' h1 h2 h3=>h A2 c2 w' h1.rd (fun _=>h1) h2 h3 fun g hg=>h1.blk_lt hg
 obtain⟨rfl,hr⟩:=fY.resolve_left hO;refine QB hT hu hw ho hs hx hr hB Bw fun A2 c2 w' h1 h2 h3=>h A2 c2 w' h1 (fun e=>absurd e hO) ⟨h2.os,h2.tape,h2.output,h2.size,fun k hk _=>h2.block k hk⟩ (h3.imp id fun e g hg=>(e g hg).1) fun g hg=>?_
 rcases h3 with e|e
 ·rw[e]at hg;exact⟨(hA g hg).1,k1 (hA g hg).2 h2.size⟩
 exact⟨q0 Hf (e g hg).1,(e g hg).2⟩
end
end Go.PH
end
section
namespace Go.PH
def be:Nat→Nat→List UInt8
 | 0,_=>[]
 | i+1,n=>Q2 (n / 256 ^ i)::be i n
theorem zr(i n:Nat):(be i n).length=i:=by
 induction i with
 | zero=>rfl
 | succ i ih=>simp[be,ih]
def qJ(w:Int):Bool:=w==1||w==2||w==4||w==8
theorem Zk(w:Int):qJ w=true↔(w=1∨w=2∨w=4∨w=8):=by unfold qJ;simp[or_assoc]
theorem qK{w:Int}(h:w=1∨w=2∨w=4∨w=8):qJ w=true:=(Zk w).2 h
theorem YB{w:Int}(h1:w≠1)(h2:w≠2)(h4:w≠4)(h8:w≠8):qJ w=false:=by unfold qJ;simp[h1,h2,h4,h8]
theorem j9{w:Int}(h:qJ w=true):1≤w∧w≤8:=by rw[Zk]at h;omega
def unbe(l:List UInt8):Nat:=l.foldl (fun n c=>256*n+c.toNat) 0
theorem Y6(l:List UInt8)(c:UInt8):unbe (l++ [c])=256*unbe l+c.toNat:=by simp[unbe]
theorem vu(l:List UInt8):unbe l<256 ^ l.length:=by
 have key:∀(l:List UInt8) (n k:Nat),n<256 ^ k→l.foldl (fun n c=>256*n+c.toNat) n<256 ^ (k+l.length):=by
  intro l
  induction l with
  | nil=>intro n k h;simpa using h
  | cons c l ih=>
   intro n k h;simp only[K1,KL];have:=ih (256*n+c.toNat) (k+1) (by have:=c.toNat_lt;rw[q3];omega);rwa[Nat.add_right_comm,kI]at this
 have:=key l 0 0 Wz;rwa[VB]at this
theorem X4(i n:Nat):∀acc:Nat,(be i n).foldl (fun n c=>256*n+c.toNat) acc=acc*256 ^ i+n % 256 ^ i:=by
 induction i with
 | zero=>intro acc;simp[be,Nat.mod_one]
 | succ i ih=>
  intro acc;simp only[be,K1,ih,UInt8.toNat_ofNat'];have h1:n % 256 ^ (i+1)=n % 256 ^ i+256 ^ i*(n / 256 ^ i % 256):=by rw[q3,Nat.mod_mul]
  have h2:acc*256 ^ (i+1)=256*acc*256 ^ i:=by rw[q3,q4 256 acc,Nat.mul_assoc,q4 256]
  have h3:(256*acc+n / 256 ^ i % 2 ^ 8)*256 ^ i=256*acc*256 ^ i+256 ^ i*(n / 256 ^ i % 256):=by rw[Nat.add_mul,q4 (256 ^ i)]
  rw[h1,h2,h3];omega
theorem vw(i n:Nat):unbe (be i n)=n % 256 ^ i:=by unfold unbe;rw[X4];simp
def puts(b:List UInt8)(n:Nat)(w:Int):List UInt8:=if qJ w then b++be w.toNat n else b
theorem yT{b:List UInt8}{n:Nat}{w:Int}(h:qJ w=true):puts b n w=b++be w.toNat n:=by unfold puts;rw[if_pos h]
theorem Kw{b:List UInt8}{n:Nat}{w:Int}(h:qJ w=false):puts b n w=b:=by unfold puts;rw[if_neg (by simp[h])]
def zE(n:Nat)(w:Int):Int:=if w=1∨w=2∨w=4 then(if n<256 ^ w.toNat then 0 else 3)else 2
def zP(b s:List UInt8)(w:Int):List UInt8:=if zE s.length w=0 then b++be w.toNat s.length++s else []
theorem zcX(i n k:Nat)(h:k<i):(k2 (i-k) 0++be k n).set (i-1-k) (Q2 (n / 256 ^ k))=k2 (i-(k+1)) 0++be (k+1) n:=by
 have e:i-k=(i-1-k)+1:=by omega
 rw[e,List.replicate_succ',List.append_assoc];have e2:i-(k+1)=i-1-k:=by omega
 rw[e2,List.set_append_right _ _ Wz];simp[be]
def xe(l:List UInt8)(bad:Bool)(x:Int):List UInt8×List UInt8×Bool:=if bad=true∨x<0∨(l.length:Int)<x then([],[],true)else(l.take x.toNat,l.drop x.toNat,false)
theorem je{l:List UInt8}{bad:Bool}{x:Int}(h:bad=true∨x<0∨(l.length:Int)<x):xe l bad x=([],[],true):=by unfold xe;rw[if_pos h]
theorem xp{l:List UInt8}{n:Nat}(h:n≤l.length):xe l false (n:Int)=(l.take n,l.drop n,false):=by unfold xe;rw[if_neg Hz];simp
def mnum(l:List UInt8)(bad:Bool)(x:Int):Nat×List UInt8×Bool:=if qJ x then(unbe (xe l bad x).1,(xe l bad x).2)else(0,[],true)
theorem X5{l:List UInt8}{bad:Bool}{x:Int}(h:qJ x=false):mnum l bad x=(0,[],true):=by unfold mnum;rw[if_neg (by simp[h])]
theorem qE{l:List UInt8}{bad:Bool}{x:Int}(h:qJ x=true):mnum l bad x=(unbe (xe l bad x).1,(xe l bad x).2):=by unfold mnum;rw[if_pos h]
theorem kS:unbe []=0:=rfl
theorem xg(l:List UInt8)(bad:Bool)(x:Int):(mnum l bad x).1<18446744073709551616:=by
 unfold mnum xe;split
 ·rename_i h
  have:=j9 h;split
  ·simp[kS]
  simp only;refine k1 (vu _) ?_;refine q0 (Nat.pow_le_pow_right Wq (show(l.take x.toNat).length≤8 by rw[Vy];omega)) WJ
 simp
def zT(l:List UInt8)(bad:Bool)(x most:Int):List UInt8×List UInt8×Bool:=
 if x=1∨x=2∨x=4 then
  let r:=mnum l bad x
  if r.2.2=true∨most<0∨most<(r.1:Int)∨r.2.1.length<r.1 then([],[],true)else xe r.2.1 r.2.2 (r.1:Int)
 else([],[],true)
theorem QO{l:List UInt8}{bad:Bool}{x most:Int}(h:¬(x=1∨x=2∨x=4)):zT l bad x most=([],[],true):=by unfold zT;rw[if_neg h]
theorem v6{l:List UInt8}{bad:Bool}{x most:Int}(h8:x≠8):zT l bad x most=if(mnum l bad x).2.2=true∨most<0∨most<((mnum l bad x).1:Int)∨(mnum l bad x).2.1.length<(mnum l bad x).1 then([],[],true)else xe (mnum l bad x).2.1 (mnum l bad x).2.2 ((mnum l bad x).1:Int):=by
 unfold zT;by_cases h:x=1∨x=2∨x=4
 ·rw[if_pos h]
 rw[if_neg h,X5 (YB Wq Wq Wq h8),if_pos (.inl rfl)]
end Go.PH
end
section
namespace Go.PH
structure Fr where
 first:Bool
 last:Bool
 beg:Bool
 fin:Bool
 ty:Nat
 track:Nat
 chan:Nat
 load:List UInt8
deriving DecidableEq
def Fr.wf(f:Fr):Prop:=f.ty<256∧f.track<256∧f.chan<65536
def bitv(b:Bool)(n:Nat):Nat:=if b then n else 0
def Fr.flags(f:Fr):Nat:=bitv f.first 8+bitv f.last 4+bitv f.beg 2+bitv f.fin 1
def Fr.ok(f:Fr):Bool:=decide (f.ty≤3)&&decide (f.track≤15)&&decide (f.load.length≤4084)
def Fr.err(f:Fr):Nat:=if f.ok then 0 else 60
def Fr.bytes(f:Fr):List UInt8:=[Q2 f.flags,Q2 f.ty]++be 2 (12+f.load.length)++ [0,Q2 f.track]++be 2 f.chan++ [0,0,0,0]++f.load
def Fr.put(f:Fr):List UInt8:=if f.ok then f.bytes else []
theorem Fr.flags_lt(f:Fr):f.flags<16:=by
 unfold Fr.flags bitv
 cases f.first<;>cases f.last<;>cases f.beg<;>cases f.fin<;>decide
end Go.PH
end
section
namespace Go.PH
structure Sg where
 ty:Nat
 load:List UInt8
deriving DecidableEq
structure As where
 chan:Nat
 track:Nat
 segs:List Sg
deriving DecidableEq
def As.wf(a:As):Prop:=a.chan<65536∧a.track<256∧∀s∈a.segs,s.ty<256
def yK:List Sg→Nat
 | []=>0
 | s::r=>s.load.length+yK r
def xn(n:Nat)(prev:Option Nat):List Sg→Bool
 | []=>true
 | s::r=>decide (s.ty≤3)&&(match prev with|none=>true|some p=>decide (p<s.ty))&&decide (n+s.load.length≤16384)&&xn (n+s.load.length) (some s.ty) r
def jN(a:As):Bool:=match a.segs with
 | []=>false
 | s::r=>decide (s.ty=a.track)&&decide (a.track≤1)&&(decide (a.track≠0)||r.isEmpty)
def asOk(a:As):Bool:=xn 0 none a.segs&&jN a
def cutS(most:Nat):Nat→Fr→List UInt8→List Fr
 | 0,f,s=>[⟨f.first,f.last,f.beg,true,f.ty,f.track,f.chan,s⟩]
 | k+1,f,s=>if s.length≤most then [⟨f.first,f.last,f.beg,true,f.ty,f.track,f.chan,s⟩]else
   ⟨f.first,f.last,f.beg,false,f.ty,f.track,f.chan,s.take most⟩::cutS most k ⟨f.first,f.last,false,false,f.ty,f.track,f.chan,[]⟩ (s.drop most)
def cutL(most chan track n:Nat):Nat→List Sg→List Fr
 | _,[]=>[]
 | i,s::r=>cutS most s.load.length ⟨decide (i=0),decide (i+1=n),true,false,s.ty,track,chan,[]⟩ s.load++cutL most chan track n (i+1) r
def vq(most:Nat)(a:As):List Fr:=cutL most a.chan a.track a.segs.length 0 a.segs
def xa(most:Int)(a:As):Nat:=if most<1∨4084<most then 2 else if asOk a then 0 else 70
structure GS where
 dead:Bool
 op:Nat→Nat→List Fr
def GS.new:GS:=⟨false,fun _ _=>[]⟩
def zI:List Fr→Nat
 | []=>0
 | f::r=>f.load.length+zI r
def vW:List Sg→List UInt8→List Sg
 | [],_=>[]
 | [s],x=>[⟨s.ty,s.load++x⟩]
 | s::t::r,x=>s::vW (t::r) x
def xE(l:List Sg)(f:Fr):List Sg:=vW (if f.beg then l++ [⟨f.ty,[]⟩]else l) f.load
def zY(l:List Fr):List Sg:=l.foldl xE []
def fitsB(l:List Fr)(f:Fr):Bool:=
 if 1<f.track then false else match l.getLast? with
 | none=>f.first&&f.beg&&decide (f.ty=f.track)&&(f.last||decide (f.track=1))
 | some x=>if x.fin then f.beg&& !f.first&&decide (x.ty<f.ty)else !f.beg&&decide (f.ty=x.ty)&&(f.first==x.first)&&(f.last==x.last)
def GS.err(g:GS)(f:Fr):Nat:=if g.dead then 9 else if !f.ok then 60 else if !fitsB (g.op f.chan f.track) f then 70 else if 16384<zI (g.op f.chan f.track)+f.load.length then 3 else 0
def GS.upd(g:GS)(c t:Nat)(l:List Fr):GS:=⟨g.dead,fun x y=>if x=c∧y=t then l else g.op x y⟩
def GS.next(g:GS)(f:Fr):GS:=if g.err f≠0 then⟨true,fun _ _=>[]⟩else g.upd f.chan f.track (if f.fin&&f.last then []else g.op f.chan f.track++ [f])
def GS.out(g:GS)(f:Fr):Option As:=if g.err f=0∧f.fin=true∧f.last=true then some ⟨f.chan,f.track,zY (g.op f.chan f.track++ [f])⟩else none
theorem jv(l:List Fr)(f:Fr):zY (l++ [f])=xE (zY l) f:=by simp[zY]
theorem qy(a b:List Fr):zI (a++b)=zI a+zI b:=by
 induction a with
 | nil=>simp[zI]
 | cons f a ih=>simp only[q5,zI,ih];omega
theorem jO(a b:List Sg):yK (a++b)=yK a+yK b:=by
 induction a with
 | nil=>simp[yK]
 | cons f a ih=>simp only[q5,yK,ih];omega
theorem vr(l:List Sg)(s:Sg)(x:List UInt8):vW (l++ [s]) x=l++ [⟨s.ty,s.load++x⟩]:=by
 induction l with
 | nil=>rfl
 | cons a l ih=>
  cases l with
  | nil=>rfl
  | cons b l=>simp only[q5]at ih ⊢;rw[vW,ih]
theorem jP:∀(l:List Sg) (x:List UInt8),(vW l x).length=l.length
 | [],_=>rfl
 | [s],x=>rfl
 | s::t::r,x=>by simp only[vW,KL,jP (t::r) x]
theorem kB:∀(l:List Sg) (x:List UInt8),l≠ []→yK (vW l x)=yK l+x.length
 | [],_,h=>absurd rfl h
 | [s],x,_=>by simp[vW,yK]
 | s::t::r,x,_=>by simp only[vW,yK];have:=kB (t::r) x Wz;simp only[yK]at this;omega
theorem Y2(l:List Sg)(f:Fr):yK (xE l f)≤yK l+f.load.length:=by
 rw[xE];split
 ·rw[kB _ _ Wz,jO];simp[yK]
 cases l with
 | nil=>simp[vW,yK]
 | cons a r=>rw[kB _ _ Wz];omega
theorem vt(l:List Fr):yK (zY l)≤zI l:=by
 have:∀(l:List Fr) (s:List Sg),yK (l.foldl xE s)≤yK s+zI l:=by
  intro l
  induction l with
  | nil=>intro s;simp[zI]
  | cons f r ih=>
   intro s;have:=ih (xE s f);have h2:=Y2 s f;simp only[K1,zI]at this ⊢;omega
 simpa[zY,yK]using this l []
structure Goes(l:List Fr):Prop where
 first:∀f,l.head?=some f→f.beg=true
 len:zI l≤16384
 few:∀y,l.getLast?=some y→y.ty≤3∧(zY l).length≤y.ty+1
structure GS.Inv(g:GS):Prop where
 goes:∀c t,Goes (g.op c t)
 deadE:g.dead=true→∀c t,g.op c t=[]
 key:∀c t,g.op c t≠ []→c<65536∧t≤1
theorem GS.inv_new:GS.new.Inv:=⟨fun _ _=>⟨fun f h=>(by cases h),by simp[GS.new,zI],fun f h=>(by cases h)⟩,fun _ _ _=>rfl,fun _ _ h=>absurd rfl h⟩
theorem Y3{l:List Fr}(h:Goes l)(hne:l≠ []):zY l≠ []:=by
 exact Z2n_
theorem GS.err_cases(g:GS)(f:Fr):g.err f=9∧g.dead=true∨g.dead=false∧(g.err f=60∧f.ok=false∨f.ok=true∧(g.err f=70∧fitsB (g.op f.chan f.track) f=false∨fitsB (g.op f.chan f.track) f=true∧
  (g.err f=3∧16384<zI (g.op f.chan f.track)+f.load.length∨g.err f=0∧zI (g.op f.chan f.track)+f.load.length≤16384))):=by
 unfold GS.err
 cases g.dead
 ·cases f.ok
  ·simp
  cases fitsB (g.op f.chan f.track) f
  ·simp
  by_cases h:16384<zI (g.op f.chan f.track)+f.load.length
  ·simp[h]
  simp[h];omega
 simp
theorem kC{l:List Fr}{f:Fr}(h:fitsB l f=true):f.track≤1:=by
 unfold fitsB at h;split at h
 ·cases h
 omega
theorem Zh{f:Fr}(h:fitsB [] f=true):f.first=true∧f.beg=true∧f.ty=f.track:=by
 unfold fitsB at h;split at h
 ·cases h
 simp at h;exact⟨h.1.1.1,h.1.1.2,h.1.2⟩
theorem Goes.snoc{l:List Fr}{f:Fr}(h:Goes l)(bJ:f.ok=true)(hf:fitsB l f=true)(hl:zI l+f.load.length≤16384):Goes (l++ [f]):=by
 refine⟨fun x hx=>?_,by rw[qy];simpa[zI]using hl,fun y hy=>?_⟩
 ·cases l with
  | nil=>simp at hx;subst hx;exact(Zh hf).2.1
  | cons a r=>exact h.first x hx
 rw[List.getLast?_append]at hy;simp at hy;subst hy;have mh:f.ty≤3:=by simp[Fr.ok]at bJ;omega
 refine⟨mh,?_⟩;rw[jv,xE,jP];unfold fitsB at hf;split at hf
 ·cases hf
 split at hf
 ·rename_i hn
  have:l=[]:=by simpa using hn
  subst this;simp at hf;simp[zY,hf.1.1.2]
 rename_i x hx
 have hep:=h.few x hx;split at hf
 ·simp at hf;rw[if_pos hf.1.1];simp;omega
 simp at hf;rw[if_neg (by simp[hf.1.1.1])];omega
theorem Goes.most{l:List Fr}(h:Goes l):(zY l).length≤4:=by
 rcases hl:l.getLast? with _|y
 ·have:l=[]:=by simpa using hl
  subst this;simp[zY]
 have:=h.few y hl;omega
theorem GS.Inv.next{g:GS}(h:g.Inv){f:Fr}(hw:f.wf):(g.next f).Inv:=by
 have rP:(⟨true,fun _ _=>[]⟩:GS).Inv:=⟨fun _ _=>⟨fun f h=>(by cases h),by simp[zI],fun f h=>(by cases h)⟩,fun _ _ _=>rfl,fun _ _ h=>absurd rfl h⟩;unfold GS.next;rcases g.err_cases f with⟨e,hd⟩|⟨hd,⟨e,_⟩|⟨bJ,⟨e,_⟩|⟨gE,⟨e,_⟩|⟨e,hl⟩⟩⟩⟩
 ·rw[if_pos Wq];exact rP
 ·rw[if_pos Wq];exact rP
 ·rw[if_pos Wq];exact rP
 ·rw[if_pos Wq];exact rP
 rw[if_neg Wq];refine⟨fun c t=>?_,fun mf=>?_,fun c t hne=>?_⟩
 ·unfold GS.upd;simp only;split
  ·split
   ·exact⟨fun f h=>(by cases h),by simp[zI],fun f h=>(by cases h)⟩
   exact(h.goes _ _).snoc bJ gE hl
  exact h.goes c t
 ·have:g.dead=true:=mf;rw[hd]at this;cases this
 unfold GS.upd at hne;simp only at hne;split at hne
 ·rename_i hk
  rw[hk.1,hk.2];exact⟨hw.2.2,kC gE⟩
 exact h.key c t hne
theorem Jy(l:List Sg)(f:Fr)(h:f.beg=true):xE l f=l++ [⟨f.ty,f.load⟩]:=by
 rw[xE,if_pos h,vr,List.nil_append]
theorem Kv(l:List Sg)(s:Sg)(f:Fr)(h:f.beg=false):xE (l++ [s]) f=l++ [⟨s.ty,s.load++f.load⟩]:=by
 rw[xE,h,if_neg Wz,vr]
theorem zb3(most k:Nat)(f:Fr)(s:List UInt8):cutS most k f s≠ []:=by
 cases k with
 | zero=>simp[cutS]
 | succ k=>rw[cutS];split<;>simp
theorem Y4(most:Nat):∀(k:Nat) (f:Fr) (s:List UInt8),zI (cutS most k f s)=s.length
 | 0,f,s=>by simp[cutS,zI]
 | k+1,f,s=>by
  rw[cutS];split
  ·simp[zI]
  rw[zI,Y4 most k];simp;omega
theorem Y5{most:Nat}(h1:1≤most):∀(n k j:Nat) (f:Fr) (s:List UInt8),s.length≤n→s.length≤k→s.length≤j→cutS most k f s=cutS most j f s
 | n,0,0,f,s,_,_,_=>rfl
 | n,0,j+1,f,s,_,hk,_=>by rw[cutS,cutS,if_pos Wq]
 | n,k+1,0,f,s,_,_,hj=>by rw[cutS,cutS,if_pos Wq]
 | n,k+1,j+1,f,s,hn,hk,hj=>by
  rw[cutS,cutS];split
  ·rfl
  rename_i hm
  cases n with
  | zero=>omega
  | succ n=>rw[Y5 h1 n k j _ (s.drop most) Hz Hz Hz]
def cutN(most:Nat)(f:Fr)(s:List UInt8):List Fr:=cutS most s.length f s
theorem kP{most:Nat}{f:Fr}{s:List UInt8}(h:s.length≤most):cutN most f s=[⟨f.first,f.last,f.beg,true,f.ty,f.track,f.chan,s⟩]:=by
 unfold cutN
 cases s with
 | nil=>rfl
 | cons x s=>rw[KL,cutS,if_pos h]
theorem kQ{most:Nat}(h1:1≤most){f:Fr}{s:List UInt8}(h:most<s.length):cutN most f s=⟨f.first,f.last,f.beg,false,f.ty,f.track,f.chan,s.take most⟩::cutN most ⟨f.first,f.last,false,false,f.ty,f.track,f.chan,[]⟩ (s.drop most):=by
 unfold cutN
 cases s with
 | nil=>simp at h
 | cons x s=>
  rw[KL,cutS,if_neg NQ,Y5 h1 s.length s.length _ _ _ Hz Hz (Q1 _)]
theorem QN(most:Nat)(h1:1≤most):∀(n:Nat) (f:Fr) (s:List UInt8),s.length≤n→(cutN most f s).length≤s.length+1
 | 0,f,s,h=>by rw[kP Wq];simp
 | n+1,f,s,h=>by
  by_cases hm:s.length≤most
  ·rw[kP hm];simp
  rw[kQ h1 Wq];have:=QN most h1 n ⟨f.first,f.last,false,false,f.ty,f.track,f.chan,[]⟩ (s.drop most) Hz;simp at this ⊢;omega
theorem Zi(most chan track n i:Nat)(s:Sg)(r:List Sg):cutL most chan track n i (s::r)=cutN most ⟨decide (i=0),decide (i+1=n),true,false,s.ty,track,chan,[]⟩ s.load++cutL most chan track n (i+1) r:=rfl
theorem YA(most chan track n:Nat)(h1:1≤most):∀(l:List Sg) (i:Nat),(cutL most chan track n i l).length≤yK l+l.length
 | [],_=>by simp[cutL]
 | s::r,i=>by
  have a:=QN most h1 s.load.length ⟨decide (i=0),decide (i+1=n),true,false,s.ty,track,chan,[]⟩ s.load (Q1 _);have b:=YA most chan track n h1 r (i+1);rw[Zi];simp only[List.length_append,yK,KL];omega
theorem Z2:∀(l:List Sg) (m:Nat) (prev:Option Nat),xn m prev l=true→l.length+(match prev with|none=>0|some p=>min (p+1) 4)≤4
 | [],m,prev,h=>by cases prev<;>simp<;>omega
 | s::r,m,prev,h=>by
  simp only[xn,Bool.and_eq_true,decide_eq_true_eq]at h;obtain⟨⟨⟨h1,h2⟩,h3⟩,h4⟩:=h;have:=Z2 r _ _ h4;simp only at this
  cases prev with
  | none=>simp;omega
  | some p=>simp at h2 ⊢;omega
theorem Z3:∀(l:List Sg) (m:Nat) (prev:Option Nat),xn m prev l=true→l≠ []→m+yK l≤16384
 | [],m,prev,h,hne=>absurd rfl hne
 | s::r,m,prev,h,_=>by
  simp only[xn,Bool.and_eq_true,decide_eq_true_eq]at h;obtain⟨⟨⟨h1,h2⟩,h3⟩,h4⟩:=h
  cases r with
  | nil=>simp[yK];omega
  | cons t r=>
   have:=Z3 (t::r) _ _ h4 Wz;rw[yK];omega
theorem vZ{a:As}(h:asOk a=true):a.segs.length≤4∧yK a.segs≤16384∧a.segs≠ []:=by
 unfold asOk at h;rw[Bool.and_eq_true]at h;have hne:a.segs≠ []:=fun e=>by have:=h.2;simp[jN,e]at this
 have h1:=Z2 _ _ _ h.1;have h2:=Z3 _ _ _ h.1 hne;simp at h1 h2;exact⟨h1,h2,hne⟩
theorem Zj{most:Nat}(h1:1≤most){a:As}(h:asOk a=true):(vq most a).length≤16388:=by
 have:=YA most a.chan a.track a.segs.length h1 a.segs 0;obtain⟨h2,h3,_⟩:=vZ h;unfold vq;omega
theorem kR{l:List Sg}{s:Sg}(h:s∈l):s.load.length≤yK l:=by
 induction l with
 | nil=>cases h
 | cons a r ih=>
  rcases List.mem_cons.1 h with rfl|h
  ·simp[yK]
  have:=ih h;simp[yK];omega
end Go.PH
end
section
namespace Go.PH
theorem ZK(a b:List UInt8):xe (a++b) false (a.length:Int)=(a,b,false):=by
 rw[xp Wz];simp
theorem vd(w:Nat)(hw:qJ (w:Int)=true)(n:Nat)(rest:List UInt8):mnum (be w n++rest) false (w:Int)=(n % 256 ^ w,rest,false):=by
 have h:=ZK (be w n) rest;rw[zr]at h;rw[qE hw,h,vw]
end Go.PH
end
namespace Go.PH
open Go.RowKit Go.Proofs
def rawV:Value→Option (DataW Value×List MemPlace):=fun v=>some (.held v,[])
end Go.PH
