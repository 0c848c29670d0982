/- Parts. -/
import Derived.Test.YtfbkameikhgciaaGreatDoorRows
import Derived.Test.YtfbkameikhgciaaGreatDoorProg
import Derived.Test.YtfbkameikhgciaaGreatDoorMg00
set_option linter.all false
set_option maxRecDepth 20000
set_option maxHeartbeats 8000000
open Go.RowKit.Below renaming refl → KL, drew → zB
open List renaming range → Q2, length_append → KS, length_take → VB, take_of_length_le → Vy, take_append_of_le_length → q0, nil_append → q1, all_eq_true → q2, mem_range → q3, getElem?_eq_getElem → q4, length_drop → q7, take_append → q8, take_take → q9, getD → kv, getElem?_eq_some_iff → k5, size_toArray → k8, drop_append → vz, drop_of_length_le → v0, drop_append_of_le_length → v1, contains_iff_mem → v3, append_nil → v4, mem_append → v9, mem_cons → j0, range_succ → j1, eq_nil_of_length_eq_zero → zA, replicate → z0
open Nat renaming le_refl → Q1, mul_le_mul_right → K0, succ_mul → K1, add_mul → K2, zero_add → q5, one_mul → q6, zero_mul → k0, add_assoc → k6, le_trans → k7, min_eq_left → k9, add_sub_cancel_left → vv, lt_or_ge → v2, sub_self → j2, le_of_lt_succ → j8
open Go.RowKit renaming intOf → Vx
open Go.World renaming block_lt_of_cell? → kI, cell?_alloc_new → ky, setCell → kx
section
namespace Go.PH
open Go.RowKit
section
variable {α : Type} {f : α → List Value} {sz : Nat}
structure RecShape(f:α→List Value)(sz:Nat):Prop where
 len:∀a,(f a).length=sz
 one:∀a,∀u∈f a,u.oneCell'=true
 pos:0<sz
def rowC(f:α→List Value)(l:List α):List Value:=l.flatMap f
theorem jn(a:α)(l:List α):rowC f (a::l)=f a++rowC f l:=rfl
theorem ql(a b:List α):rowC f (a++b)=rowC f a++rowC f b:=by simp[rowC]
theorem jx(h:RecShape f sz)(l:List α):(rowC f l).length=l.length*sz:=by
 induction l with
 | nil=>simp[rowC]
 | cons a l ih=>rw[jn,KS,ih,h.len,List.length_cons,K2];omega
theorem YC(h:RecShape f sz):∀(l:List α) (k:Nat) (hk:k<l.length) (j:Nat),j<sz→(rowC f l)[k*sz+j]?=(f l[k])[j]?
 | a::l,0,_,j,hj=>by
  rw[jn,k0,q5,List.getElem?_append_left (by rw[h.len];exact hj)];rfl
 | a::l,k+1,hk,j,hj=>by
  have:=YC h l k (by simpa using hk) j hj;rw[jn,List.getElem?_append_right (by rw[h.len,K2];omega),h.len,K2,show k*sz+1*sz+j-sz=k*sz+j by omega,this];rfl
variable {w w' : World} {B n c base e : Nat} {A : Option Addr} {l : List α}
theorem yM(h:RecShape f sz)(hr:Rd w B sz A n c (rowC f l)):l.length=n:=by
 have:=hr.len;rw[jx h]at this;exact Nat.eq_of_mul_eq_mul_right h.pos this
theorem xF(h:RecShape f sz)(hr:Rd w B sz A n c (rowC f l)){k:Nat}(hk:k<n):∃b off,A=some ⟨b,off,none⟩∧b<B∧∃hl:k<l.length,∀j u,(f l[k])[j]?=some u→w.cell? ⟨b,off+k*sz+j,none⟩=some u:=by
 obtain⟨b,off,e,hb,hc⟩:=hr.at_ Wq;have hl:=yM h hr;refine⟨b,off,e,hb,by omega,fun j u hu=>?_⟩;have hj:j<sz:=by have:=(k5.1 hu).1;rwa[h.len]at this
 have:=hc (k*sz+j) u ((YC h l k Wq j hj).trans hu);rwa[←k6]at this
theorem YD(h:RecShape f sz)(ho:Own w base e sz A n c (rowC f l)):l.length=n:=yM h ho.rd
theorem jR{P:Program}{W:World}{o:Oper}{a:Act}{K:Act→World→Prop}{Q:Exit→Act→World→Prop}{s x:Operand}{t t2 e2 bytes g:Nat}{z:Value}(h:RecShape f sz)(hT:SlT P t e sz bytes z)(h2:P.underlying t2=some (.slice e2))
  (ho:o.op= .call {callee:=.builtin .append,args:=#[s,x],argTypes:=#[t,t2]}) (hs:a.eval s= .slice A n c) (hx:a.eval x= .slice (some ⟨g,0,none⟩) 1 1) (hg:g=W.heap.size) {cs:Array Value}
  (r:α) (fX:cs.toList=f r) (Hl:Own W base e sz A n c (rowC f l)) (hn:(n+1)*bytes≤140737488355328) (eO:n≤1000000000) (Hf:base≤W.heap.size)
  (hk:∀A2 c2 w',Own w' base e sz A2 (n+1) c2 (rowC f (l++ [r]))→W.grownBy w' (blk A)→(blk A2=blk A∨∀g,blk A2=some g→W.heap.size≤g)→Below base W w'→K (a.put o.dst (.slice A2 (n+1) c2)) w'):
  o.wp P a (W.alloc (.cells cs e)) K Q:=by
 subst hg;have Ds:cs.size=1*sz:=by rw[q6,←h.len r,←fX];simp
 have bZ:=yn (w:=W) base cs e 1 Hf WX Ds h.pos;have bW:Own (W.alloc (.cells cs e)) base e sz A n c (rowC f l):=Hl.alloc _;refine jL (ops:=#[]) hT h2 ho hs hx bW bZ.rd (fun u hu=>h.one r u (by rw[←fX];exact hu)) hn UJ Hz fun A2 c2 w' a1 a2 a3=>?_
 have e1:rowC f l++cs.toList=rowC f (l++ [r]):=by rw[ql,fX];simp[rowC]
 rw[e1]at a1;have Hc:Below base W (W.alloc (.cells cs e)):=(KL _ _).alloc Hf _;have sH:W.grownBy w' (blk A):=⟨a2.os,a2.tape,a2.output,k7 Hc.size a2.size,fun k hk hne=>(a2.block k Hz hne).trans (((KL W.heap.size W).alloc (Q1 _) _).block k hk)⟩;refine hk A2 c2 w' a1 sH ?_ ((KL _ _).grown sH Hf (fun g hg=>(Hl.blk_lt hg).1));exact Z5i_
theorem jS{P:Program}{W:World}{ops:Array Oper}{rest:List Oper}{o:Oper}{a:Act}{Q:Exit→Act→World→Prop}{s x:Operand}{t t2 e2 bytes g:Nat}{z:Value}(h:RecShape f sz)(hT:SlT P t e sz bytes z)(h2:P.underlying t2=some (.slice e2))(hw:Region.wanted o (yielded ops a.tmps)=true)
  (ho:o.op= .call {callee:=.builtin .append,args:=#[s,x],argTypes:=#[t,t2]}) (hs:a.eval s= .slice A n c) (hx:a.eval x= .slice (some ⟨g,0,none⟩) 1 1) (hg:g=W.heap.size) {cs:Array Value}
  (r:α) (fX:cs.toList=f r) (Hl:Own W base e sz A n c (rowC f l)) (hn:(n+1)*bytes≤140737488355328) (eO:n≤1000000000) (Hf:base≤W.heap.size)
  (hk:∀A2 c2 w',Own w' base e sz A2 (n+1) c2 (rowC f (l++ [r]))→W.grownBy w' (blk A)→(blk A2=blk A∨∀g,blk A2=some g→W.heap.size≤g)→Below base W w'→wpList P ops Q rest (a.put o.dst (.slice A2 (n+1) c2)) w'):
  wpList P ops Q (o::rest) a (W.alloc (.cells cs e)):=by
 refine BigFrame.wpList_want hw fun K hK=>?_
 exact jR h hT h2 ho hs hx hg r fX Hl hn eO Hf fun A2 c2 w' a1 a2 a3 a4=>hK _ _ (hk A2 c2 w' a1 a2 a3 a4)
end
end Go.PH
end
section
namespace Go.PH
open Go.RowKit
structure Hd where
 A:Option Addr
 n:Nat
 c:Nat
def Hd.v(h:Hd):Value:=.slice h.A h.n h.c
def Quiet(w w':World):Prop:=w'.os=w.os∧w'.tape=w.tape∧w'.output=w.output
theorem Quiet.refl(w:World):Quiet w w:=⟨rfl,rfl,rfl⟩
theorem Quiet.trans{a b c:World}(h:Quiet a b)(k:Quiet b c):Quiet a c:=⟨k.1.trans h.1,k.2.1.trans h.2.1,k.2.2.trans h.2.2⟩
theorem Quiet.below{B:Nat}{w w':World}(h:Below B w w'):Quiet w w':=⟨h.os,h.tape,h.output⟩
theorem Quiet.grown{w w':World}{r:Option Nat}(h:w.grownBy w' r):Quiet w w':=⟨h.os,h.tape,h.output⟩
def KeepF(F:Nat→Prop)(w w':World):Prop:=w.heap.size≤w'.heap.size∧(∀g,g<w.heap.size→¬F g→w'.heap[g]?=w.heap[g]?)∧Quiet w w'
theorem KeepF.size{F:Nat→Prop}{w w':World}(h:KeepF F w w'):w.heap.size≤w'.heap.size:=h.1
theorem KeepF.refl(F:Nat→Prop)(w:World):KeepF F w w:=⟨Q1 _,fun _ _ _=>rfl,.refl w⟩
theorem KeepF.trans{F F':Nat→Prop}{w w' w2:World}(h:KeepF F w w')(h':KeepF F' w' w2)(hF:∀g,F' g→F g∨w.heap.size≤g):KeepF F w w2:=
 ⟨k7 h.1 h'.1,fun g hg hn=>(h'.2.1 g (Nat.lt_of_lt_of_le hg h.1) (fun e=>by rcases hF g e with e|e;exact hn e;omega)).trans (h.2.1 g hg hn),h.2.2.trans h'.2.2⟩
theorem KeepF.below{F:Nat→Prop}{w w':World}(h:Below w.heap.size w w'):KeepF F w w':=⟨h.size,fun g hg _=>h.block g hg,.below h⟩
theorem KeepF.grown{F:Nat→Prop}{w w':World}{r:Option Nat}(h:w.grownBy w' r)(hr:∀g,r=some g→F g∨w.heap.size≤g):KeepF F w w':=
 ⟨h.size,fun g hg hn=>h.block g hg (fun e=>by rcases hr g e.symm with e|e;exact hn e;omega),.grown h⟩
theorem KeepF.toBelow{F:Nat→Prop}{w w':World}{B:Nat}(h:KeepF F w w')(hB:B≤w.heap.size)(hF:∀g,F g→B≤g):Below B w w':=
 ⟨h.2.2.1,h.2.2.2.1,h.2.2.2.2,h.1,fun k hk=>h.2.1 k Wq (fun e=>by have:=hF k e;omega)⟩
theorem KeepF.weak{F G:Nat→Prop}{w w':World}(h:KeepF F w w')(hF:∀g,F g→G g∨w.heap.size≤g):KeepF G w w':=
 ⟨h.1,fun g hg hn=>h.2.1 g hg (fun e=>by rcases hF g e with e|e;exact hn e;omega),h.2.2⟩
theorem zaB{F G:Nat→Prop}{w w':World}(h:KeepF G w w')(hd:∀g,F g→¬G g)(hl:∀g,F g→g<w.heap.size):∀g,F g→w'.heap[g]?=w.heap[g]?:=fun g hg=>h.2.1 g (hl g hg) (hd g hg)
theorem yj{w w':World}{H:Type}{P:Program}{k:TypeId}{R:Value→Option (DataW H×List MemPlace)}{b n:Nat}{D:DataW H}(h:w.ownsMap P k R b n D)(hb:w'.heap[b]?=w.heap[b]?):w'.ownsMap P k R b n D:=by
 obtain⟨es,clock,h1,h2,h3,h4⟩:=h;exact⟨es,clock,hb.trans h1,h2,h3,h4⟩
theorem v7{w w':World}{base e size n c:Nat}{A:Option Addr}{xs:List Value}(h:Own w base e size A n c xs)(hb:∀g,blk A=some g→w'.heap[g]?=w.heap[g]?):Own w' base e size A n c xs:=by
 unfold Own World.ownsRow at h ⊢;obtain⟨hl,h1⟩:=h;refine⟨hl,h1.imp id ?_⟩;rintro⟨g,cap,cur,hv,cY,hh,hr⟩;exact⟨g,cap,cur,hv,cY,(hb g (by injection hv with e;rw[e];rfl)).trans hh,hr⟩
theorem zU{w w':World}{F:Nat→Prop}{g t:Nat}{cs:Array Value}(h:Box w g t cs)(hk:KeepF F w w')(hF:¬F g):Box w' g t cs:=(hk.2.1 g h.lt hF).trans h
theorem zw{w w':World}{F:Nat→Prop}{base e size n c:Nat}{A:Option Addr}{xs:List Value}(h:Own w base e size A n c xs)(hk:KeepF F w w')(hF:∀g,blk A=some g→¬F g):Own w' base e size A n c xs:=
 v7 h fun g hg=>hk.2.1 g (h.blk_lt hg).2 (hF g hg)
end Go.PH
end
section
namespace Go.PH
open Go.RowKit
section
variable {α : Type} {f : α → List Value} {sz : Nat} {P : Program} {w w' : World} {base e n c g m t bytes : Nat} {A : Option Addr} {l : List α} {z : Value}
theorem QR(ho:Own w base e sz (some ⟨g,0,none⟩) n c (rowC f l)):∃cur,base≤g∧w.heap[g]?=some (.cells cur e (0,0))∧n≤c∧c≤maxLen∧cur.size=c*sz∧cur.toList.take (n*sz)=rowC f l:=by
 rcases ho.2 with⟨hv,_⟩|⟨g',cap,cur,hv,h1,h2,h3,h4,h5,h6⟩
 ·injection hv with h1;cases h1
 injection hv with e1 e2 e3
 injection e1 with e1
 injection e1 with e1
 subst e1 e3;exact⟨cur,h1,h2,h3,h4,h5,h6⟩
theorem QS(ho:Own w base e sz A n c (rowC f l))(hn:0<n):∃g,A=some ⟨g,0,none⟩∧base≤g∧g<w.heap.size:=by
 rcases ho.2 with⟨hv,rfl⟩|⟨g,cap,cur,hv,h1,h2,_⟩
 ·omega
 injection hv with e1 e2 e3
 exact⟨g,e1,h1,(Array.getElem?_eq_some_iff.1 h2).1⟩
theorem QT(h:RecShape f sz)(r:α):∀(l:List α) (k:Nat),k<l.length→rowC f (l.set k r)=rowC f (l.take k)++f r++rowC f (l.drop (k+1))
 | a::l,0,_=>by simp[rowC]
 | a::l,k+1,hk=>by
  rw[List.set_cons_succ,jn,QT h r l k (by simpa using hk),List.take_succ_cons,jn,List.drop_succ_cons];simp
theorem JB(f:α→List Value)(l:List α)(k:Nat)(hk:k<l.length):rowC f l=rowC f (l.take k)++f l[k]++rowC f (l.drop (k+1)):=by
 have e:l=l.take k++ [l[k]]++l.drop (k+1):=by simp
 have e2:rowC f l=rowC f (l.take k++ [l[k]]++l.drop (k+1)):=by rw[←e]
 rw[e2,ql,ql];simp[rowC]
theorem zb7(h:RecShape f sz)(ho:Own w base e sz (some ⟨g,0,none⟩) n c (rowC f l)){cur:Array Value}(hb:w.heap[g]?=some (.cells cur e (0,0))){k i:Nat}{vs:List Value}{r:α}(hk:k<n)(bI:k<l.length)
  (hf:f r=(f l[k]).take i++vs++(f l[k]).drop (i+vs.length)) (hi:i+vs.length≤sz) (hB:w'.heap[g]?=some (.cells (cur.toList.take (k*sz+i)++vs++cur.toList.drop (k*sz+i+vs.length)).toArray e (0,0))):
  Own w' base e sz (some ⟨g,0,none⟩) n c (rowC f (l.set k r)):=by
 obtain⟨cur',eG,nF,iy,rV,fX,ht⟩:=QR ho;rw[hb]at nF;injection nF with nF
 injection nF with nF
 subst nF;have hn:=YD h ho;have tk:k*sz+sz≤n*sz:=by have:=K0 sz (show k+1≤n by omega);rw[K2,q6]at this;exact this
 have hnz:n*sz≤c*sz:=K0 _ iy;refine⟨by rw[jx h,List.length_set,hn],.inr ⟨g,c,_,rfl,eG,hB,iy,rV,?_,?_⟩⟩
 ·simp only[k8,KS,VB,q7,Array.length_toList,fX];omega
 have hX:(cur.toList.take (k*sz+i)++vs++cur.toList.drop (k*sz+i+vs.length)).take (n*sz)=(rowC f l).take (k*sz+i)++vs++(rowC f l).drop (k*sz+i+vs.length):=by
  rw[←ht,q8,q8,q9,q9,KS,VB,Array.length_toList,fX,List.drop_take];have e1:min (n*sz) (k*sz+i)=k*sz+i:=by omega
  have e2:min (k*sz+i) (n*sz)=k*sz+i:=by omega
  have e3:min (k*sz+i) (c*sz)=k*sz+i:=by omega
  rw[e1,e2,e3,Vy (show vs.length≤n*sz-(k*sz+i) by omega)];try congr 2
 have ik:(rowC f (l.take k)).length=k*sz:=by rw[jx h,VB,k9 Wq]
 have hS:=JB f l k bI;have dl:=h.len l[k];rw[show(cur.toList.take (k*sz+i)++vs++cur.toList.drop (k*sz+i+vs.length)).toArray.toList=_ from rfl,hX,QT h r l k bI,hf,hS,List.append_assoc (rowC f (l.take k)) (f l[k])]
 have t1:(rowC f (l.take k)++(f l[k]++rowC f (l.drop (k+1)))).take (k*sz+i)=rowC f (l.take k)++(f l[k]).take i:=by
  rw[q8,ik,vv,Vy Wq,q0 Wq]
 have t2:(rowC f (l.take k)++(f l[k]++rowC f (l.drop (k+1)))).drop (k*sz+i+vs.length)=(f l[k]).drop (i+vs.length)++rowC f (l.drop (k+1)):=by
  rw[vz,ik,v0 Wq,k6,vv,q1,v1 Wq]
 rw[t1,t2];simp
theorem Y9{o:Oper}{a:Act}{K:Act→World→Prop}{Q:Exit→Act→World→Prop}{x y:Operand}{ty:TypeId}{v:Value}{k i j:Nat}{vs:List Value}(h:RecShape f sz)(ho:o.op= .store ty x y)(hx:a.eval x= .pointer (some ⟨g,j,none⟩))(hy:a.eval y=v)
  (Hl:Own w base e sz (some ⟨g,0,none⟩) n c (rowC f l)) (hk:k<n) (bI:k<l.length) (r:α) (hv:v.cells.toList=vs) (hi:(P.info? ty).map (·.size)=some vs.length) (hf:f r=(f l[k]).take i++vs++(f l[k]).drop (i+vs.length)) (BB:i+vs.length≤sz) (hj:j=k*sz+i)
  (hc:∀w',Own w' base e sz (some ⟨g,0,none⟩) n c (rowC f (l.set k r))→w.grownBy w' (some g)→w'.heap.size=w.heap.size→K (a.put o.dst undef) w'):o.wp P a w K Q:=by
 subst hj;obtain⟨cur,eG,hb,iy,rV,fX,ht⟩:=QR Hl;have tk:k*sz+sz≤n*sz:=by have:=K0 sz (show k+1≤n by omega);rw[K2,q6]at this;exact this
 have hnz:n*sz≤c*sz:=K0 _ iy;have h1:∀u∈vs,u.oneCell'=true:=fun u hu=>h.one r u (by rw[hf];simp[hu])
 exact zK ho hx hy (show Box w g e cur from hb) hv hi Wq h1 _ rfl fun w' b1 b2 b3=>hc w' (zb7 h Hl hb hk bI hf BB b1) b2 b3
theorem zb8{ops:Array Oper}{rest:List Oper}{o:Oper}{a:Act}{Q:Exit→Act→World→Prop}{size:Nat}{x:Operand}{lo hi mx:Option Operand}(hT:SlT P t e size bytes z)(hw:Region.wanted o (yielded ops a.tmps)=true)
  (ho:o.op= .slice t x lo hi mx) (hx:a.eval x= .slice A n c) (gC:c≤maxLen) (iy:n≤c) (l h m:Nat) (fC:Bd (lo.map a.eval) 0 l) (mT:Bd (hi.map a.eval) n h) (m4:Bd (mx.map a.eval) c m) (um:mx.isSome=true→hi.isSome=true)
  (h1:l≤h) (h2:h≤m) (h3:m≤c) (h4:h≤n)
  (hk:wpList P ops Q rest (a.put o.dst (.slice (cutA A size l m) (h-l) (m-l))) w):
  wpList P ops Q (o::rest) a w:=by
 refine BigFrame.wpList_want hw fun K hK=>?_
 have bu:=kU (A:=A) hT w gC iy l h m fC mT m4 (by simpa using um) h1 h2 h3 h4;unfold Oper.wp execOp;simp only[ho,hx,Sem.run_bind,Sem.run_pure,Result.andThen_ok,bu];exact hK _ _ hk
theorem JC{ops:Array Oper}{Q:Exit→Act→World→Prop}{rest:List Oper}{a:Act}{dst:Option Tmp}{ty:TypeId}{pos:String}{after:Array Edge}{guard:Option (Nat×Bool)}{xs:Array Operand}{ts:Array TypeId}(h:Hold (wpList P ops Q (⟨dst,.call ⟨.builtin .clear,xs,ts⟩,ty,pos,after,guard⟩::rest) a w)):
  wpList P ops Q (⟨dst,.call ⟨.builtin .clear,xs,ts⟩,ty,pos,after,guard⟩::rest) a w:=h
end
end Go.PH
end
section
namespace Go.PH
open Go.RowKit
section
variable {P : Program} {ops : Array Oper} {Q : Exit → Act → World → Prop} {S S2 : World → Prop} {fuel : Nat} {listed : Array Bool} {a : Act} {w : World}
theorem zt(S:World→Prop){id:Nat}(hm:P.follows .mixedOrders=true)(h:wpAnyH P .any ops (NoPanic Q) S ops.size (Array.replicate ops.size false) a w.drew):(Code.region id ops true).wp P Q a w:=
 wp_region_noPanic (wp_region_held hm h)
theorem ze(i:Nat){o:Oper}{v:Value}(hi:ops[i]?=some o)(hs:Region.noSelect ops=true)(hf:Region.free .any ops listed i=true)(hr:(Region.ready .any ops listed).contains i=true)
  (hS:S w) (hw:Region.wanted o (yielded ops a.tmps)=true) (hy:∀w,S w→(execOp a.eval o).run P w= .ok (.value v) w)
  (h:wpAnyH P .any ops (NoPanic Q) S fuel (listed.setIfInBounds i true) (a.put o.dst v) w):wpAnyH P .any ops (NoPanic Q) S (fuel+1) listed a w:=
 wpAnyH_take hi hs hf hr (fun _ _ _ h=>h) (.inl ⟨hw,hy⟩) hS h
theorem jT(i:Nat){o:Oper}(hi:ops[i]?=some o)(hs:Region.noSelect ops=true)(hf:Region.free .any ops listed i=true)(hr:(Region.ready .any ops listed).contains i=true)
  (hS:S w) (hw:Region.wanted o (yielded ops a.tmps)=false)
  (h:wpAnyH P .any ops (NoPanic Q) S fuel (listed.setIfInBounds i true) (a.put o.dst undef) w):wpAnyH P .any ops (NoPanic Q) S (fuel+1) listed a w:=
 wpAnyH_take hi hs hf hr (fun _ _ _ h=>h) (.inr ⟨hw,rfl⟩) hS h
theorem zj(i:Nat){o:Oper}(hi:ops[i]?=some o)(hr:Region.ready .any ops listed=[i])(hw:Region.wanted o (yielded ops a.tmps)=true)
  (h:∀K:Act→World→Prop,(∀a' w',S w'→wpAnyH P .any ops Q S fuel (listed.setIfInBounds i true) a' w'→K a' w')→o.wp P a w K Q):wpAnyH P .any ops Q S (fuel+1) listed a w:=
 wpAnyH_all (rs:=[i]) hr Wz fun j hj=>by
  obtain rfl:j=i:=by simpa using hj
  exact Z5z_
theorem zz(hr:Region.ready .any ops listed=[])(h:Q .normal a w):wpAnyH P .any ops (NoPanic Q) S fuel listed a w:=wpAnyH_done (Q:=NoPanic Q) hr h _
end
section
variable {P : Program} {ops : Array Oper} {Q : Exit → Act → World → Prop} {S : World → Prop} {fuel : Nat} {listed : Array Bool} {a : Act} {w : World}
theorem rg_t(i:Nat){o:Oper}{v:Value}(hS:S w)(h:wpAnyH P .any ops (NoPanic Q) S fuel (listed.setIfInBounds i true) (a.put o.dst v) w)(hi:ops[i]?=some o:=by rfl)(hs:Region.noSelect ops=true:=by kernel_rfl)(hf:Region.free .any ops listed i=true:=by kernel_rfl)(hr:(Region.ready .any ops listed).contains i=true:=by kernel_rfl)
    (hw:Region.wanted o (yielded ops a.tmps)=true:=by rfl) (hy:∀w,S w→(execOp a.eval o).run P w= .ok (.value v) w:=by intro wS He;go_simp;(with_reducible rfl)):wpAnyH P .any ops (NoPanic Q) S (fuel+1) listed a w:=ze i hi hs hf hr hS hw hy h
end
end Go.PH
end
section
namespace Go.PH
open Go.RowKit
section
variable {P : Program} {ops : Array Oper} {Q : Exit → Act → World → Prop} {S S2 : World → Prop} {fuel : Nat} {listed : Array Bool} {a : Act} {w : World}
theorem xP(i j:Nat){o p:Oper}(hi:ops[i]?=some o)(hj:ops[j]?=some p)(hr:Region.ready .any ops listed=[i,j])(hw:Region.wanted o (yielded ops a.tmps)=true)(nl:Region.wanted p (yielded ops a.tmps)=true)
  (h:∀K:Act→World→Prop,(∀a' w',S w'→wpAnyH P .any ops Q S fuel (listed.setIfInBounds i true) a' w'→K a' w')→o.wp P a w K Q)
  (h':∀K:Act→World→Prop,(∀a' w',S w'→wpAnyH P .any ops Q S fuel (listed.setIfInBounds j true) a' w'→K a' w')→p.wp P a w K Q):wpAnyH P .any ops Q S (fuel+1) listed a w:=
 wpAnyH_all (rs:=[i,j]) hr Wz fun k hk=>by
  rcases(by simpa using hk:k=i∨k=j)with rfl|rfl
  ·exact Z5z_
  exact Z5v_
end
section
variable {P : Program} {ops : Array Oper} {Q : Exit → Act → World → Prop} {S : World → Prop} {fuel : Nat} {listed : Array Bool} {a : Act} {w : World} {t e size bytes n c : Nat} {z : Value} {A : Option Addr}
theorem qF(i:Nat){o:Oper}{x:Operand}{lo hi mx:Option Operand}(hT:SlT P t e size bytes z)(hi':ops[i]?=some o)(hs:Region.noSelect ops=true)(hf:Region.free .any ops listed i=true)(hr:(Region.ready .any ops listed).contains i=true)
  (hS:S w) (hw:Region.wanted o (yielded ops a.tmps)=true) (ho:o.op= .slice t x lo hi mx) (hx:a.eval x= .slice A n c) (gC:c≤maxLen) (iy:n≤c) (l h m:Nat)
  (fC:Bd (lo.map a.eval) 0 l) (mT:Bd (hi.map a.eval) n h) (m4:Bd (mx.map a.eval) c m) (um:mx.isSome=true→hi.isSome=true) (h1:l≤h) (h2:h≤m) (h3:m≤c) (h4:h≤n)
  (hk:wpAnyH P .any ops (NoPanic Q) S fuel (listed.setIfInBounds i true) (a.put o.dst (.slice (cutA A size l m) (h-l) (m-l))) w):wpAnyH P .any ops (NoPanic Q) S (fuel+1) listed a w:=
 ze i hi' hs hf hr hS hw (fun wS _=>by
  unfold execOp
  simp only[ho,hx,Sem.run_bind,Sem.run_pure,Result.andThen_ok,kU (A:=A) hT wS gC iy l h m fC mT m4 (by simpa using um) h1 h2 h3 h4]) hk
end
end Go.PH
end
section
namespace Go.PH
open Go.RowKit
variable {P : Program} {ops : Array Oper} {Q : Exit → Act → World → Prop} {S S2 : World → Prop} {fuel : Nat} {listed : Array Bool} {a : Act} {w : World}
theorem Jf(i j k:Nat){o p q:Oper}(hi:ops[i]?=some o)(hj:ops[j]?=some p)(hk:ops[k]?=some q)(hr:Region.ready .any ops listed=[i,j,k])(hw:Region.wanted o (yielded ops a.tmps)=true)(nl:Region.wanted p (yielded ops a.tmps)=true)(nU:Region.wanted q (yielded ops a.tmps)=true)
  (h:∀K:Act→World→Prop,(∀a' w',S w'→wpAnyH P .any ops Q S fuel (listed.setIfInBounds i true) a' w'→K a' w')→o.wp P a w K Q)
  (h':∀K:Act→World→Prop,(∀a' w',S w'→wpAnyH P .any ops Q S fuel (listed.setIfInBounds j true) a' w'→K a' w')→p.wp P a w K Q)
  (h2:∀K:Act→World→Prop,(∀a' w',S w'→wpAnyH P .any ops Q S fuel (listed.setIfInBounds k true) a' w'→K a' w')→q.wp P a w K Q):wpAnyH P .any ops Q S (fuel+1) listed a w:=
 wpAnyH_all (rs:=[i,j,k]) hr Wz fun m hm=>by
  rcases(by simpa using hm:m=i∨m=j∨m=k)with rfl|rfl|rfl
  ·exact Z5z_
  ·exact Z5v_
  unfold wpOp;rw[hk];simp only[nU,if_true];exact .inl (h2 _ fun a' w' h1 h2=>⟨h1,h2⟩)
end Go.PH
end
section
namespace Go.PH
open Go.RowKit
section
variable {P : Program} {ops : Array Oper} {Q : Exit → Act → World → Prop} {S : World → Prop} {j fuel : Nat} {listed : Array Bool} {a : Act} {w : World}
def kz(P:Program)(ops:Array Oper)(Q:Exit→Act→World→Prop)(j:Nat)(S:World→Prop):Nat→Array Bool→Act→World→Prop
 | 0,listed,a,w=>Region.ready .any ops listed=[]∧Q .normal a w
 | fuel+1,listed,a,w=>(Region.ready .any ops listed=[]→Q .normal a w)∧∀i∈Region.ready .any ops listed,wpOp P ops Q i (fun a' w'=>(i≠j→S w')∧kz P ops Q j S fuel (listed.setIfInBounds i true) a' w') a w
theorem XP:∀(fuel:Nat) (listed:Array Bool) (a:Act) (w:World),kz P ops Q j S fuel listed a w→wpAny P .any ops Q fuel listed a w
 | 0,_,_,_,h=>h
 | fuel+1,_,_,_,h=>⟨h.1,fun i hi=>wpOp_mono (fun a' w' h'=>XP fuel _ a' w' h'.2) (h.2 i hi)⟩
theorem jb(j:Nat)(S:World→Prop){id:Nat}(hm:P.follows .mixedOrders=true)(h:kz P ops (NoPanic Q) j S ops.size (Array.replicate ops.size false) a w.drew):(Code.region id ops true).wp P Q a w:=
 wp_region_noPanic (wp_region_any hm (XP _ _ _ _ h))
def deps(ops:Array Oper)(i:Nat):List Nat:=(Q2 ops.size).foldl (fun C x=>match ops[x]? with
 | some o=>if o.after.any fun e=>Region.binds .any e&&(e.on==i||C.contains e.on)then x::C else C
 | none=>C) []
def zcJ(ops:Array Oper)(i:Nat)(C:List Nat)(x:Nat):Bool:=match ops[x]? with
 | some o=>o.after.any fun e=>Region.binds .any e&&(e.on==i||C.contains e.on)
 | none=>false
def zdn(ops:Array Oper)(listed:Array Bool)(i j:Nat)(C:List Nat):Bool:=C.all (zcJ ops i C)&&C.all (fun x=> !listed.getD x true)&&C.contains j
theorem Ka{i:Nat}{oi:Oper}{v:Value}{C:List Nat}(hi:ops[i]?=some oi)(Nh:∀(j:Nat) (o:Oper) cs b,ops[j]?=some o→o.op≠ .select cs b)
  (hQ:∀c a w,Q (.panic c) (a.put oi.dst v) w→Q (.panic c) a w) (hW:∀x∈C,zcJ ops i C x=true) (hj:j∈C):
  ∀(fuel:Nat) (listed:Array Bool) (a:Act) (w:World),(∀x∈C,listed.getD x true=false)→
   (∀j oj,ops[j]?=some oj→j≠i→listed.getD j true=false→(∀e∈oj.after,Region.binds .any e=true→e.on≠i)→oi.apart ops oj=true)→
   i∈Region.ready .any ops listed→YieldsIf P ops S oi v a→S w→
   kz P ops Q j S fuel (listed.setIfInBounds i true) (a.put oi.dst v) w→kz P ops Q j S (fuel+1) listed a w:=by
 have TM:∀{l:Array Bool} {x:Nat},l.getD x true=false→¬l.getD x false=true:=by
  intro l x h0 h1;rcases v2 x l.size with h'|h'
  ·simp[h']at h0 h1;rw[h0]at h1;cases h1
  simp[Array.getElem?_eq_none h']at h1
 intro fuel
 induction fuel with
 | zero=>
  intro listed a w hC uH hr hy hS H;refine⟨fun h=>(by rw[h]at hr;cases hr),fun x hx=>?_⟩;by_cases C3:x=i
  ·subst C3;exact hy.wpOp hi hS ⟨fun _=>hS,H⟩
  have:=ready_mono hx C3;rw[H.1]at this
  cases this
 | succ fuel ih=>
  intro listed a w hC uH hr hy hS H;refine⟨fun h=>(by rw[h]at hr;cases hr),fun x hx=>?_⟩;by_cases C3:x=i
  ·subst C3;exact hy.wpOp hi hS ⟨fun _=>hS,H⟩
  have h1:=H.2 x (ready_mono hx C3);obtain⟨Ly,ox,N9,BL⟩:=mem_ready.1 hx;have IQ:∀e∈ox.after,Region.binds .any e=true→e.on≠i:=fun e he hb mI=>TM (mem_ready.1 hr).1 (mI▸BL e he hb)
  have UH:x∉C:=fun hm=>by
   have hw:=hW x hm;unfold zcJ at hw;rw[N9]at hw;simp only[Array.any_eq_true']at hw;obtain⟨e,he,hb⟩:=hw;simp only[Bool.and_eq_true,Bool.or_eq_true,beq_iff_eq,v3]at hb;rcases hb.2 with h2|h2
   ·exact IQ e he hb.1 h2
   exact TM (hC _ h2) (BL e he hb.1)
  have hxj:x≠j:=fun e=>UH (e▸hj)
  have h2:=wpOp_putIf N9 (uH x ox N9 C3 Ly IQ) (fun cs b=>Nh i oi cs b hi) (fun cs b=>Nh x ox cs b N9) hQ hy h1
  have El:∀k ok,ops[k]?=some ok→k≠i→(listed.setIfInBounds x true).getD k true=false→
    (∀e∈ok.after,Region.binds .any e=true→e.on≠i)→oi.apart ops ok=true:=fun k ok hk UF Mw BO=>by
   refine uH k ok hk UF ?_ BO;by_cases Un:x=k
   ·subst Un;exact Ly
   ·rw[getD_set_ne true Un]at Mw;exact Mw
  have wM:∀y∈C,(listed.setIfInBounds x true).getD y true=false:=fun y hm=>by
   (have WK:x≠y:=fun e=>by subst e;exact UH hm);rw[getD_set_ne true WK];exact hC y hm
  refine wpOp_mono (fun a' w' h3=>⟨h3.2.1,ih (listed.setIfInBounds x true) a' w' wM El (ready_mono hr (Ne.symm C3)) h3.1 (h3.2.1 hxj) ?_⟩) h2;rw[Array.setIfInBounds_comm _ _ C3];exact h3.2.2
theorem yi(i:Nat){o:Oper}{v:Value}(hS:S w)(h:kz P ops (NoPanic Q) j S fuel (listed.setIfInBounds i true) (a.put o.dst v) w)(hi:ops[i]?=some o:=by rfl)(hs:Region.noSelect ops=true:=by kernel_rfl)(hf:Region.free .any ops listed i=true:=by kernel_rfl)(hr:(Region.ready .any ops listed).contains i=true:=by kernel_rfl)
  (ht:zdn ops listed i j (deps ops i)=true:=by kernel_rfl) (hw:Region.wanted o (yielded ops a.tmps)=true:=by rfl) (hy:∀w,S w→(execOp a.eval o).run P w= .ok (.value v) w:=by intro wS He;have hk:=He;go_simp;(with_reducible rfl)):kz P ops (NoPanic Q) j S (fuel+1) listed a w:=by
 unfold zdn at ht;simp only[Bool.and_eq_true,q2,v3,Bool.not_eq_true']at ht;exact Ka hi (Region.noSelect_spec hs) (fun _ _ _ h=>h) ht.1.1 ht.2 fuel listed a w ht.1.2 (Region.free_spec hi hf) (by simpa using hr) (.inl ⟨hw,hy⟩) hS h
theorem yH(i:Nat){o:Oper}(hi:ops[i]?=some o)(hr:Region.ready .any ops listed=[i])(hw:Region.wanted o (yielded ops a.tmps)=true)
  (h:∀K:Act→World→Prop,(∀a' w',(i≠j→S w')→kz P ops Q j S fuel (listed.setIfInBounds i true) a' w'→K a' w')→o.wp P a w K Q):kz P ops Q j S (fuel+1) listed a w:=
 ⟨fun h0=>absurd (hr▸h0) Wz,hr▸fun x hx=>by
  obtain rfl:x=i:=by simpa using hx
  unfold wpOp;rw[hi];simp only[hw,if_true]
  exact .inl (h _ fun a' w' h1 h2=>⟨h1,h2⟩)⟩
theorem YW{o:Oper}{w':World}{K:Act→World→Prop}{v:Value}(h:(execOp a.eval o).run P w= .ok (.value v) w')(hk:K (a.put o.dst v) w'):o.wp P a w K Q:=by
 unfold Oper.wp;rw[h];exact hk
theorem kO(hr:Region.ready .any ops listed=[])(h:Q .normal a w):kz P ops (NoPanic Q) j S fuel listed a w:=by
 cases fuel with
 | zero=>exact⟨hr,h⟩
 | succ n=>exact⟨fun _=>h,by rw[hr];simp⟩
end
end Go.PH
end
section
namespace Go.PH
open Go.RowKit
section
variable {P : Program} {ops : Array Oper} {Q : Exit → Act → World → Prop} {S S2 : World → Prop} {fuel : Nat} {listed : Array Bool} {a : Act} {w : World}
structure PanW(Q:Exit→Act→World→Prop):Prop where
 h:∀(d:Option Tmp) (v:Value) (c:List PanicEntry) (a:Act) (w:World),Q (.panic c) (a.put d v) w→Q (.panic c) a w
theorem zQ(P:Program)(fn:Func)(R:Ending→World→Prop):PanW (bodyPost P fn R):=⟨fun d v c a w h=>⟨by cases d<;>exact h.1,h.2⟩⟩
theorem zR{K:Act→World→Prop}(h:PanW Q):PanW (Exit.then K Q):=⟨fun d v c a w hh=>h.h d v c a w hh⟩
theorem zH{id:Nat}(h:PanW Q):PanW (Exit.inBlock id Q):=⟨fun d v c a w hh=>h.h d v c a w hh⟩
theorem VD(S:World→Prop){id:Nat}(hm:P.follows .mixedOrders=true)(h:wpAnyH P .any ops Q S ops.size (Array.replicate ops.size false) a w.drew):(Code.region id ops true).wp P Q a w:=wp_region_held hm h
theorem ya(hQ:PanW Q)(i:Nat){o:Oper}{v:Value}(hi:ops[i]?=some o)(hs:Region.noSelect ops=true)(hf:Region.free .any ops listed i=true)(hr:(Region.ready .any ops listed).contains i=true)
  (hS:S w) (hw:Region.wanted o (yielded ops a.tmps)=true) (hy:∀w,S w→(execOp a.eval o).run P w= .ok (.value v) w)
  (h:wpAnyH P .any ops Q S fuel (listed.setIfInBounds i true) (a.put o.dst v) w):wpAnyH P .any ops Q S (fuel+1) listed a w:=
 wpAnyH_take hi hs hf hr (fun c a w h=>hQ.h _ _ c a w h) (.inl ⟨hw,hy⟩) hS h
theorem qR(hr:Region.ready .any ops listed=[])(h:Q .normal a w):wpAnyH P .any ops Q S fuel listed a w:=wpAnyH_done hr h _
end
section
variable {α : Type} {f : α → List Value} {sz : Nat} {w : World} {base e n c : Nat} {A : Option Addr} {l : List α}
theorem km(h:RecShape f sz){z:α}(ho:Own w base e sz A (l.length+1) c (rowC f (l++ [z]))):∃g cur,A=some ⟨g,0,none⟩∧base≤g∧Box w g e cur∧l.length*sz+sz≤cur.size∧
  ∀(x:α) (w':World) (cs':Array Value),cs'=(cur.toList.take (l.length*sz)++f x++cur.toList.drop (l.length*sz+(f x).length)).toArray→Box w' g e cs'→Own w' base e sz A (l.length+1) c (rowC f (l++ [x])):=by
 unfold Own World.ownsRow at ho;obtain⟨hl,h1⟩:=ho;rcases h1 with⟨_,h0⟩|⟨g,cap,cur,hv,hb,hh,iy,rV,Bw,ht⟩
 ·omega
 injection hv with h1 h2 h3
 subst h1 h3;have fX:(l.length+1)*sz≤cur.size:=by rw[Bw];exact K0 _ iy
 have gu:l.length*sz+sz≤cur.size:=by rw[←K1];exact fX
 refine⟨g,cur,rfl,hb,hh,gu,fun x w' cs' e nF=>?_⟩;have Oh:(f x).length=sz:=h.len x
 have AX:cur.toList.take (l.length*sz)=rowC f l:=by
  have h3:=congrArg (List.take (l.length*sz)) ht;rw[q9,k9 (by rw[K1];omega),ql]at h3;rw[h3,q0 (by rw[jx h];exact Q1 _),Vy (by rw[jx h];exact Q1 _)]
 have cN:cs'.size=cur.size:=by
  rw[e];simp only[k8,KS,VB,q7,Array.length_toList,Oh];omega
 unfold Own World.ownsRow;refine⟨by rw[jx h,KS];rfl,.inr ⟨g,c,cs',rfl,hb,nF,iy,rV,by rw[cN,Bw],?_⟩⟩;rw[e,ql];simp only[List.toList_toArray];rw[q0 (by simp only[KS,VB,Array.length_toList,Oh,K1];omega),AX,Vy (by rw[KS,jx h,Oh,K1];exact Q1 _)];simp[rowC]
theorem vf{t:TypeId}{cs:Array Value}{g:Nat}(hb:Box w g t cs)(hs:cs.size=n*sz)(hm:n≤maxLen):Rd w w.heap.size sz (some ⟨g,0,none⟩) n n cs.toList:=
 ⟨by simpa using hs,Q1 _,hm,fun _=>⟨g,0,rfl,hb.lt,fun j u hu=>by rw[q5];exact hb.cell (by simpa using hu)⟩⟩
end
end Go.PH
end
section
namespace Go.PH
open Go.RowKit Go.ChangeShapes Go.WideShapes Go.ChangeAt
open Go.ChangeMaps (open_string shut_string)
section
variable {H : Type} {enc : TypeId × Value → H} {P : Program} {W W' : World}
theorem va(hl:laidOutB P=true)(bel:Below W.heap.size W W'):∀{ts:List TypeId} {vs:List Value} {ds:List (DataW H)} {ps:List MemPlace},(ts.all fun t=>P.readableRec t&&decide (t<P.types.size))=true→
  (∀x∈ps,x.block<W.heap.size)→DataW.TrodAll enc P W 0 (fun _=>true) true ts vs ds ps→DataW.TrodAll enc P W' 0 (fun b=>decide (b<W.heap.size)) true ts vs ds ps
 | [],[],[],_,_,_,h=>h
 | [],_::_,_,_,_,_,h=>h.elim
 | [],[],_::_,_,_,_,h=>h.elim
 | _::_,[],_,_,_,_,h=>h.elim
 | _::_,_::_,[],_,_,_,h=>h.elim
 | t::ts,v::vs,d::ds,ps,ha,hlt,h=>by
  obtain⟨p,q,hp,hq,rfl⟩:=h;simp only[List.all_cons,Bool.and_eq_true,decide_eq_true_eq]at ha;exact⟨p,q,Below.trod hl ha.1.1 ha.1.2 hp bel (fun x hx=>hlt x (by simp[hx])),va hl bel (by simpa using ha.2) (fun x hx=>hlt x (by simp[hx])) hq,rfl⟩
theorem zaS{fn:Func}{s:ChangeSpec}{args:Array Value}{ds gs:List (DataW H)}{before:List MemPlace}{bt:TypeId}(CS:s.vars=[])
  (hW:DataW.Whole enc P fn.params.toList s.vars false W args.toList ds gs before) (hl:laidOutB P=true) (pj:(fn.params.toList.all fun t=>P.readableRec t&&decide (t<P.types.size))=true)
  (av:fn.resultTypes= #[bt]) (hb:P.underlying bt=some .bool) (UR:∀ds:List (DataW H),ds.length=fn.params.size→s.fn H ds={results:=[.lit (.bool true)],args:=ds}) (bel:Below W.heap.size W W'):
  s.post enc P fn false true false false W args (.bool true) W':=by
 have Gq:=hW;obtain⟨p,q,hA,hV,rfl,F3,hnd⟩:=hW;rw[CS]at hV;obtain⟨rfl,rfl⟩:=trodVars_none hV
 have bQ:∀{ts:List TypeId} {vs:List Value} {ds:List (DataW H)} {ps:List MemPlace},DataW.TrodAll enc P W 0 (fun _=>true) true ts vs ds ps→ds.length=ts.length:=by
  intro ts
  induction ts with
  | nil=>intro vs ds ps h;cases vs<;>cases ds<;>simp_all [DataW.TrodAll]
  | cons t ts ih=>
   intro vs ds ps h;obtain⟨v,vs',d,ds',p,q,rfl,rfl,rfl,_,h⟩:=trodAll_cons h;simp[ih h]
 have e:s.fn H (ds++ [])={results:=[.lit (.bool true)],args:=ds}:=by rw[v4];exact UR ds (by rw[bQ hA];simp)
 refine⟨ds,[],_,[],p,[],Gq,?_,?_,?_,bel.frame _,fun h=>by cases h⟩
 ·rw[e,av];exact⟨[],[],shut_bool hb true,rfl,rfl⟩
 ·rw[e];exact va hl bel pj (fun x hx=>Gq.lt x (by simp[hx])) hA
 rw[e,CS];exact rfl
end
end Go.PH
end
section
namespace Go.PH
open Go.RowKit Go.ChangeShapes Go.WideShapes Go.ChangeAt Go.Deep
section
variable {H : Type} {enc : TypeId × Value → H} {P : Program} {W : World}
def Reader(enc:TypeId×Value→H)(P:Program)(W:World)(t:TypeId){α:Type}(R:α→List Value→Prop):Prop:=
 ∀(fuel:Nat) (cs:List Value) (d:DataW H) (p:List MemPlace),DataW.trod enc P W 0 (fun _=>true) true fuel t cs=some (d,p)→(∀x∈d.weights P t,x≤reachBytes)→∃a,R a cs
def RStr(l:List UInt8)(cs:List Value):Prop:=cs=[.string (str l)]∧l.length≤140737488351232
def zda(W:World)(size bytes:Nat){α:Type}(R:α→List Value→Prop)(L:List α)(cs:List Value):Prop:=
 ∃A n c xs,cs=[.slice A n c]∧Rd W W.heap.size size A n c xs∧L.length=n∧c*bytes≤140737488351232∧∀i (h:i<L.length),R L[i] ((xs.drop (i*size)).take size)
theorem JM{t:TypeId}(ht:P.underlying t=some .string):Reader enc P W t RStr:=fun fuel cs d p h hw=>by
 obtain⟨s,h1,h2,_⟩:=DataW.trod_string ht h;obtain⟨rfl,rfl⟩:d=_∧p=_:=by simpa using h2
 have:=hw s.data.toList.length (by simp[DataW.weights]);exact⟨s.data.toList,h1,by simpa[reachBytes]using this⟩
theorem kt{e:TypeId}:∀{ds:List (DataW H)} {d:DataW H},d∈ds→∀x∈d.weights P e,x∈DataW.weightsAll P e ds
 | d0::ds,d,hd,x,hx=>by
  simp only[DataW.weightsAll,v9];rcases j0.1 hd with rfl|h
  ·exact .inl hx
  exact .inr (kt h x hx)
theorem Xm{t e size bytes:Nat}{α:Type}{R:α→List Value→Prop}(ht:P.underlying t=some (.slice e))(hc:P.cellsOf e=size)(dT:P.bytesOf e=bytes)(nA:0<size)(hr:Reader enc P W e R):Reader enc P W t (zda W size bytes R):=fun fuel cs d p h hw=>by
 have hlt:=DataW.trod_lt fuel _ _ _ h;rcases open_slice ht h with⟨rfl,_⟩|⟨a,len,cap,m,n,D,Pl,rfl,hb,hl,hm,p8,hx,BE⟩
 ·exact⟨[],none,0,0,[],rfl,Rd.nil _ _ _ _ WX _,rfl,by omega,fun i h=>by simp at h⟩
 simp only[if_true]at p8;have RD:=p8.symm;subst RD;obtain⟨rfl,rfl⟩:d=_∧p=_:=by simpa using hx
 have fq:cap*bytes≤140737488351232:=by
  have:=hw (((((Q2 len).map D).length)+(((Q2 (cap-len)).map fun j=>D (len+j)).length))*P.bytesOf e) (by simp[DataW.weights,ht]);simp only[List.length_map,List.length_range,dT,reachBytes]at this;rwa[show len+(cap-len)=cap by omega]at this
 have each:∀i,i<len→∃y:α×List Value,W.cells? 0 (a.add (i*P.cellsOf e)) (P.cellsOf e)=some y.2∧R y.1 y.2:=fun i hi=>by
  obtain⟨cs',h1,h2⟩:=BE i Wq
  obtain⟨y,hy⟩:=hr _ _ _ _ h2 (fun x hx=>hw x (by
   simp only[DataW.weights,ht,j0,v9]
   exact .inr (.inl (kt (List.mem_map.2 ⟨i,q3.2 hi,rfl⟩) x hx))))
  exact⟨(y,cs'),h1,hy⟩
 obtain⟨Y,hY⟩:∃Y:Nat→Option (α×List Value),∀i,i<len→∃y,Y i=some y∧W.cells? 0 (a.add (i*P.cellsOf e)) (P.cellsOf e)=some y.2∧R y.1 y.2:=
  ⟨fun i=>if h:i<len then some (each i h).choose else none,fun i hi=>⟨_,dif_pos hi,(each i hi).choose_spec⟩⟩
 by_cases fD:len=0
 ·subst fD;exact⟨[],some a,0,cap,[],rfl,Rd.nil _ _ _ _ hm _,rfl,fq,fun i h=>by simp at h⟩
 obtain⟨y0,_⟩:=hY 0 Wq
 obtain⟨Y',Ug⟩:∃Y':Nat→α×List Value,∀i,i<len→Y i=some (Y' i):=⟨fun i=>(Y i).getD y0,fun i hi=>by
  obtain⟨y,hy,_⟩:=hY i hi;show Y i=some ((Y i).getD y0)
  rw[hy];rfl⟩
 replace hY:∀i,i<len→W.cells? 0 (a.add (i*P.cellsOf e)) (P.cellsOf e)=some (Y' i).2∧R (Y' i).1 (Y' i).2:=fun i hi=>by
  obtain⟨y,hy,h1⟩:=hY i hi;rw[Ug i hi]at hy;injection hy with hy
  rw[hy];exact h1
 clear Ug each;obtain⟨Y,rfl⟩:∃Y,Y=Y':=⟨_,rfl⟩
 have DJ:∀i,i<len→(Y i).2.length=size:=fun i hi=>by rw[←hc];exact(World.cells?_some (hY i hi).1).2.1
 have E7:∀(k:Nat),k≤len→((Q2 k).flatMap fun i=>(Y i).2).length=k*size∧∀i,i<k→((((Q2 k).flatMap fun i=>(Y i).2).drop (i*size)).take size)=(Y i).2:=by
  intro k
  induction k with
  | zero=>intro _;simp
  | succ k ih=>
   intro hk;obtain⟨h1,h2⟩:=ih Wq;have iL:=DJ k Wq;rw[j1,List.flatMap_append];simp only[List.flatMap_cons,List.flatMap_nil,v4];refine⟨by rw[KS,h1,iL,K1],fun i hi=>?_⟩;rcases v2 i k with mo|mo
   ·(have:i*size+size≤k*size:=by rw[←K1];exact K0 _ mo);rw[v1 (by rw[h1];omega),q0 (by rw[q7,h1];omega)];exact h2 i mo
   (obtain rfl:i=k:=by omega);rw[vz,h1,j2,v0 (by rw[h1];exact Q1 _),List.drop_zero,q1,Vy Wq]
 obtain⟨hL,Te⟩:=E7 len (Q1 _);refine⟨(Q2 len).map fun i=>(Y i).1,some a,len,cap,(Q2 len).flatMap fun i=>(Y i).2,rfl,⟨hL,hl,hm,fun hn=>?_⟩,by simp,fq,fun i hi=>?_⟩
 ·obtain⟨_,_,Fb⟩:=World.cells?_some (hY 0 hn).1;have h0:=Fb 0 Wq
  have Oi:W.cell? a=(Y 0).2[0]?:=by
   rw[←h0];congr 1;simp[Addr.add]
  have D1:(Y 0).2[0]?=some ((Y 0).2[0]'(by rw[DJ 0 hn];exact nA)):=q4 _;rw[D1]at Oi;obtain⟨b,off,spot⟩:=a;have MY:spot=none:=World.cell?_spot Oi;subst MY;refine⟨b,off,rfl,kI W _ Oi,fun j u hu=>?_⟩;have hj:j<len*size:=by rw[←hL];exact(k5.1 hu).1
  have hq:j / size<len:=(Nat.div_lt_iff_lt_mul nA).2 hj;have i5:j % size<size:=Nat.mod_lt _ nA;have Wh:j / size*size+j % size=j:=by rw[Nat.mul_comm];exact Nat.div_add_mod j size
  obtain⟨_,_,Cb⟩:=World.cells?_some (hY (j / size) hq).1;have h3:=Cb (j % size) (by rw[hc];exact i5);rw[hc]at h3
  have h4:(Y (j / size)).2[j % size]?=some u:=by
   rw[←Te _ hq,List.getElem?_take,if_pos i5,List.getElem?_drop,Wh];exact hu
  rw[h4]at h3;rw[←h3];congr 1;unfold Addr.add;split<;>split<;>simp_all<;>omega
 simp only[List.getElem_map,List.getElem_range];have hi':i<len:=by simpa using hi
 rw[Te i hi'];exact(hY i hi').2
theorem zci{t:TypeId}{v:Value}{d:DataW H}{ps:List MemPlace}{α:Type}{R:α→List Value→Prop}(hr:Reader enc P W t R)(hd:DataW.Trod enc P W 0 (fun _=>true) true t v d ps)
  {ts:List TypeId} {ds:List (DataW H)} {j:Nat} (hz:(DataW.weightsEach P ts ds).all (· ≤reachBytes)=true) (ht:ts[j]?=some t) (sR:ds[j]?=some d):∃a,R a v.cells.toList:=by
 obtain⟨fuel,hf⟩:=hd;refine hr fuel _ d ps hf fun x hx=>?_
 have:=q2.1 hz x (DataW.weights_mem_each ht sR x hx);simpa using this
theorem zaW{t e size bytes:Nat}{v:Value}{d:DataW H}{ps:List MemPlace}{r:Reach}{b0:Nat}{α:Type}{R:α→List Value→Prop}(ht:P.underlying t=some (.slice e))(hc:P.cellsOf e=size)(dT:P.bytesOf e=bytes)(nA:0<size)(hr:Reader enc P W e R)
  (EY:Value.okWide P W r b0 t v) (hd:DataW.Trod enc P W 0 (fun _=>true) true t v d ps)
  {ts:List TypeId} {ds:List (DataW H)} {j:Nat} (hz:(DataW.weightsEach P ts ds).all (· ≤reachBytes)=true) (pj:ts[j]?=some t) (sR:ds[j]?=some d):
  ∃(A:Option Addr) (n c:Nat) (xs:List Value) (L:List α),v= .slice A n c∧Rd W W.heap.size size A n c xs∧L.length=n∧c*bytes≤140737488351232∧∀i (h:i<L.length),R L[i] ((xs.drop (i*size)).take size):=by
 obtain⟨A,n,c,rfl⟩:=okWide_slice ht EY;obtain⟨L,A',n',c',xs,h1,h2,h3,h4,h5⟩:=zci (Xm ht hc dT nA hr) hd hz pj sR;obtain⟨rfl,rfl,rfl⟩:A=A'∧n=n'∧c=c':=by simpa[Value.cells]using h1
 exact⟨A,n,c,xs,L,rfl,h2,h3,h4,h5⟩
end
end Go.PH
end
namespace Go.PH
open Go.RowKit Go.Proofs Go.Proofs.Tryz
variable {cs : Array Value} {b l : List UInt8} {T base c g k n off size : Nat} {A : Option Addr} {w : World}
theorem slB:SlT prog 55 5 1 1 (.int .u8 0):=SlT.mk' underlying55 Wj rfl Wq
theorem jf{B:Nat}(hr:RdB w B A n c l):(convert 55 9 (.slice A n c)).run prog w= .ok (.string (str l)) w:=
 jk underlying55 underlying9 underlying5 hr
def xv:Nat→Nat
 | 0=>15|1=>3|2=>16|3=>255|4=>0|5=>15|6=>255|7=>255|_=>0
def frN(b:List UInt8):Nat:=256*(b.getD 2 0).toNat+(b.getD 3 0).toNat
def yF(b:List UInt8)(k:Nat):Bool:=if k=3 then decide (12≤frN b)&&decide (frN b≤4096)else decide ((b.getD k 0).toNat≤xv k)
def zN(b:List UInt8):Bool:=(Q2 (min b.length 12)).all (yF b)
theorem zcZ(p:Option Addr)(n:Nat)(w:World):
  Calls prog 72 #[.int .u8 n,.pointer p] w fun e w'=>e= .returned (.func (.func 73) #[] #[.pointer p,.pointer (some ⟨w.heap.size,0,none⟩)])∧w'=w.alloc (.cells #[.int .u8 n] 5):=by
 go_enter func72,ntmps72;go_wp2_with(with_reducible refine h_A ?_);go_ret;exact⟨rfl,rfl⟩
theorem qS(A:Option Addr)(n c:Nat)(b:List UInt8)(B bb nb m:Nat)(w:World)(hr:RdB w B A n c b)(hb:w.cell? ⟨bb,0,none⟩=some (.slice A n c))(hn:w.cell? ⟨nb,0,none⟩=some (.int .u8 m))(i:Nat)(hi:i<n)(de:n≤140737488355328):
  Calls prog 73 #[.int .i64 i,.pointer (some ⟨bb,0,none⟩),.pointer (some ⟨nb,0,none⟩)] w fun e w'=>e= .returned (.bool (decide ((b.getD i 0).toNat≤m)))∧∃q,w'=w.drewN q:=by
 obtain⟨bk,off,rfl,_,hl,hc⟩:=RdB.at_k hr hi;have e:b.getD i 0=b[i]:=by simp[kv,q4 hl]
 have hx:=b[i].toNat_lt;rw[e];generalize b[i].toNat=x at*;have hd:decide ((x:Int)≤(m:Int))=decide (x≤m):=by rw[Bool.eq_iff_iff];simp
 go_enter func73,ntmps73;go_wp2_with(with_reducible refine h_A ?_);go_quiet(fail);go_wp2_with(with_reducible refine h_A ?_);go_ret;exact⟨by first|rfl|simp[hd],_,rfl⟩
theorem KD(i:Nat)(w:World):Calls prog 74 #[.int .i64 i] w fun e w'=>e= .returned (.bool true)∧w'=w:=by
 go_enter func74,ntmps74;go_wp2_with(with_reducible refine h_A ?_);go_ret;exact⟨rfl,rfl⟩
theorem zc0(x y:Nat)(hx:x<256)(hy:y<256):bits .or .i64 ((x:Int)*256) (y:Int)=((256*x+y:Nat):Int):=by
 have e:(x:Int)*256=((256*x:Nat):Int):=by omega
 rw[e];show IntKind.i64.wrap ((BitVec.ofInt 64 ((256*x:Nat):Int)|||BitVec.ofInt 64 (y:Int)).toNat:Int)=_
 have h2:=Nat.two_pow_add_eq_or_of_lt (i:=8) (b:=y) Wq x;rw[BitVec.toNat_or,ofInt_u64 _ Wq,ofInt_u64 _ Wq,show 256*x=2 ^ 8*x by omega,←h2];exact IntWalk.i64_in _ ⟨by omega,by omega⟩
theorem zaI(A:Option Addr)(n c:Nat)(b:List UInt8)(B bb:Nat)(w:World)(hr:RdB w B A n c b)(hb:w.cell? ⟨bb,0,none⟩=some (.slice A n c))(h3:3<n)(de:n≤140737488355328):
  Calls prog 75 #[.int .i64 3,.pointer (some ⟨bb,0,none⟩)] w fun e w'=>e= .returned (.bool (decide (12≤frN b)&&decide (frN b≤4096)))∧∃q,w'=w.drewN q:=by
 obtain⟨bk,off,rfl,_,o9,i4⟩:=RdB.at_k hr h3;obtain⟨bk',off',e',_,cN,dK⟩:=RdB.at_k hr (k:=2) Wq;obtain⟨rfl,rfl⟩:bk=bk'∧off=off':=by simpa using e'
 have e2:b.getD 2 0=b[2]:=by simp[kv,q4 cN]
 have e3:b.getD 3 0=b[3]:=by simp[kv,q4 o9]
 have hx:=b[2].toNat_lt;have hy:=b[3].toNat_lt;unfold frN;rw[e2,e3];generalize b[2].toNat=x at*;generalize b[3].toNat=y at*;have fY:=zc0 x y hx hy;have h3':(3:Int)<(n:Int):=by omega
 have hW:=fun(v:Bool) (hv:(decide (12≤256*x+y)&&decide (256*x+y≤4096))=v)=>Lib.hid hv
 by_cases h1:12≤256*x+y
 ·have d1:(12:Int)≤256*(x:Int)+(y:Int):=by omega
  by_cases h2:256*x+y≤4096
  ·have qqdo:=();exact Z38_
  exact Z38_
 have qqdp:=();exact Z38_
theorem xV(hk:k<b.length)(Bk:k<12)(h:yF b k=false):zN b=false:=by
 unfold zN;rw[List.all_eq_false];exact⟨k,q3.2 Wq,by simp[h]⟩
theorem qf{p:Nat→Bool}(h:(Q2 k).all p=true)(hp:p k=true):(Q2 (k+1)).all p=true:=by
 rw[j1,List.all_append,h];simp[hp]
theorem jz(p:Option Addr)(n:Nat)(w:World):
  Calls prog 72 #[.int .u8 n,.pointer p] w fun e w'=>∃nb,e= .returned (.func (.func 73) #[] #[.pointer p,.pointer (some ⟨nb,0,none⟩)])∧w'.cell? ⟨nb,0,none⟩=some (.int .u8 n)∧Below w.heap.size w w':=by
 refine(zcZ p n w).mono ?_;rintro e w' ⟨rfl,rfl⟩;exact⟨_,rfl,ky _ _ _ _,(KL _ _).alloc (Q1 _) _⟩
theorem zo{w':World}{a:Addr}{u:Value}(h:w.cell? a=some u)(hB:Below w.heap.size w w'):w'.cell? a=some u:=(hB.cell (kI w _ h)).trans h
theorem zaJ(A:Option Addr)(n c:Nat)(b:List UInt8)(B:Nat)(w:World)(hr:RdB w B A n c b)(hB:B≤w.heap.size)(hn:n≤140737488355328):
  Calls prog 51 #[.slice A n c] w fun e w'=>e= .returned (.bool (zN b))∧Below w.heap.size w w':=by
 have hl:=RdB.length hr;obtain⟨M,hM⟩:∃M,M=min n 12:=⟨_,rfl⟩
 have pL:(if(12:Int)<(n:Int)then(12:Int)else(n:Int))=(M:Int):=by split<;>omega
 have Ek:M≤n:=by omega
 have tp:M≤12:=by omega
 have HWL:Hid (zN b=(Q2 M).all (yF b)):=Lib.hid (by unfold zN;rw[hl,←hM]);have hM3:∀k,k<M→k<b.length:=fun k h=>by omega
 clear hM;obtain⟨w0,nY⟩:∃w0,w0=w.alloc (.cells #[.slice A n c] 55):=⟨_,rfl⟩
 have Hy:Below w.heap.size w w0:=by rw[nY];exact(KL _ _).alloc (Q1 _) _
 have ei:w0.cell? ⟨w.heap.size,0,none⟩=some (.slice A n c):=by rw[nY];exact ky _ _ _ _
 go_enter func51,ntmps51;go_wp2_with(with_reducible refine h_A ?_);have En:=jz (some ⟨w.heap.size,0,none⟩) 15 w0;rw[nY]at En;refine En.mono ?_;rintro e w1 ⟨Sj,rfl,ca,NG⟩;rw[←nY]at NG;clear En nY;have Ha:=Hy.trans (NG.mono Hy.size);have ei:=zo ei NG;clear NG Hy;go_wp2_with(with_reducible refine h_A ?_);refine(jz (some ⟨w.heap.size,0,none⟩) 3 w1).mono ?_;rintro e w2 ⟨OB,rfl,dK,p9⟩;have Hc:=Ha.trans (p9.mono Ha.size);have ei:=zo ei p9;have ca:=zo ca p9;clear p9 Ha;go_wp2_with(with_reducible refine h_A ?_);refine(jz (some ⟨w.heap.size,0,none⟩) 16 w2).mono ?_;rintro e w3 ⟨R7,rfl,i4,Ix⟩;have Hh:=Hc.trans (Ix.mono Hc.size);have ei:=zo ei Ix;have ca:=zo ca Ix;have dK:=zo dK Ix;clear Ix Hc;go_wp2_with(with_reducible refine h_A ?_);refine(jz (some ⟨w.heap.size,0,none⟩) 0 w3).mono ?_;rintro e w4 ⟨PK,rfl,sw,Gm⟩;have Hn:=Hh.trans (Gm.mono Hh.size);have ei:=zo ei Gm;have ca:=zo ca Gm;have dK:=zo dK Gm;have i4:=zo i4 Gm;clear Gm Hh;go_wp2_with(with_reducible refine h_A ?_);refine(jz (some ⟨w.heap.size,0,none⟩) 15 w4).mono ?_;rintro e w5 ⟨PM,rfl,rD,Ei⟩;have bw:=Hn.trans (Ei.mono Hn.size);have ei:=zo ei Ei;have ca:=zo ca Ei;have dK:=zo dK Ei;have i4:=zo i4 Ei;have sw:=zo sw Ei;clear Ei Hn;go_wp2_with(with_reducible refine h_A ?_);refine(jz (some ⟨w.heap.size,0,none⟩) 0 w5).mono ?_;rintro e w6 ⟨Ps,rfl,sT,Di⟩;have bG:=bw.trans (Di.mono bw.size);have ei:=zo ei Di;have ca:=zo ca Di;have dK:=zo dK Di;have i4:=zo i4 Di;have sw:=zo sw Di;have rD:=zo rD Di;clear Di bw;go_wp2_with(with_reducible refine h_A ?_);refine(jz (some ⟨w.heap.size,0,none⟩) 0 w6).mono ?_;rintro e w7 ⟨OU,rfl,u9,AZ⟩;have Bn:=bG.trans (AZ.mono bG.size);have ei:=zo ei AZ;have ca:=zo ca AZ;have dK:=zo dK AZ;have i4:=zo i4 AZ;have sw:=zo sw AZ;have rD:=zo rD AZ;have sT:=zo sT AZ;clear AZ bG;go_wp2_with(with_reducible refine h_A ?_);refine(jz (some ⟨w.heap.size,0,none⟩) 0 w7).mono ?_;rintro e w8 ⟨PF,rfl,Iv,v5⟩;have Bf:=Bn.trans (v5.mono Bn.size);have ei:=zo ei v5;have ca:=zo ca v5;have dK:=zo dK v5;have i4:=zo i4 v5;have sw:=zo sw v5;have rD:=zo rD v5;have sT:=zo sT v5;have u9:=zo u9 v5;clear v5 Bn;go_wp2_with(with_reducible refine h_A ?_);refine(jz (some ⟨w.heap.size,0,none⟩) 0 w8).mono ?_;rintro e w9 ⟨O0,rfl,So,t4⟩;have Bl:=Bf.trans (t4.mono Bf.size);have ei:=zo ei t4;have ca:=zo ca t4;have dK:=zo dK t4;have i4:=zo i4 t4;have sw:=zo sw t4;have rD:=zo rD t4;have sT:=zo sT t4;have u9:=zo u9 t4;have Iv:=zo Iv t4;clear t4 Bf;have MF:w.heap.size<w9.heap.size:=kI w9 _ ei;go_wp2_with(with_reducible refine h_A ?_);generalize hW:w9.alloc (.cells #[.func (.func 73) #[] #[.pointer (some ⟨w.heap.size,0,none⟩),.pointer (some ⟨Sj,0,none⟩)],.func (.func 73) #[] #[.pointer (some ⟨w.heap.size,0,none⟩),.pointer (some ⟨OB,0,none⟩)],.func (.func 73) #[] #[.pointer (some ⟨w.heap.size,0,none⟩),.pointer (some ⟨R7,0,none⟩)],.func (.func 75) #[] #[.pointer (some ⟨w.heap.size,0,none⟩)],.func (.func 73) #[] #[.pointer (some ⟨w.heap.size,0,none⟩),.pointer (some ⟨PK,0,none⟩)],.func (.func 73) #[] #[.pointer (some ⟨w.heap.size,0,none⟩),.pointer (some ⟨PM,0,none⟩)],.func (.func 74) #[] #[],.func (.func 74) #[] #[],.func (.func 73) #[] #[.pointer (some ⟨w.heap.size,0,none⟩),.pointer (some ⟨Ps,0,none⟩)],.func (.func 73) #[] #[.pointer (some ⟨w.heap.size,0,none⟩),.pointer (some ⟨OU,0,none⟩)],.func (.func 73) #[] #[.pointer (some ⟨w.heap.size,0,none⟩),.pointer (some ⟨PF,0,none⟩)],.func (.func 73) #[] #[.pointer (some ⟨w.heap.size,0,none⟩),.pointer (some ⟨O0,0,none⟩)]] 145)=W;have pg:∀(i:Nat) u,(#[.func (.func 73) #[] #[.pointer (some ⟨w.heap.size,0,none⟩),.pointer (some ⟨Sj,0,none⟩)],.func (.func 73) #[] #[.pointer (some ⟨w.heap.size,0,none⟩),.pointer (some ⟨OB,0,none⟩)],.func (.func 73) #[] #[.pointer (some ⟨w.heap.size,0,none⟩),.pointer (some ⟨R7,0,none⟩)],.func (.func 75) #[] #[.pointer (some ⟨w.heap.size,0,none⟩)],.func (.func 73) #[] #[.pointer (some ⟨w.heap.size,0,none⟩),.pointer (some ⟨PK,0,none⟩)],.func (.func 73) #[] #[.pointer (some ⟨w.heap.size,0,none⟩),.pointer (some ⟨PM,0,none⟩)],.func (.func 74) #[] #[],.func (.func 74) #[] #[],.func (.func 73) #[] #[.pointer (some ⟨w.heap.size,0,none⟩),.pointer (some ⟨Ps,0,none⟩)],.func (.func 73) #[] #[.pointer (some ⟨w.heap.size,0,none⟩),.pointer (some ⟨OU,0,none⟩)],.func (.func 73) #[] #[.pointer (some ⟨w.heap.size,0,none⟩),.pointer (some ⟨PF,0,none⟩)],.func (.func 73) #[] #[.pointer (some ⟨w.heap.size,0,none⟩),.pointer (some ⟨O0,0,none⟩)]]:Array Value)[i]?=some u→W.cell? ⟨w9.heap.size,i,none⟩=some u:=fun i u h=>by rw[←hW];exact(ky _ _ _ _).trans h
 have td:Below w9.heap.size w9 W:=by rw[←hW];exact(KL _ _).alloc (Q1 _) _
 have ew:=Bl.trans (td.mono Bl.size);have ei:=zo ei td;have ca:=zo ca td;have dK:=zo dK td;have i4:=zo i4 td;have sw:=zo sw td;have rD:=zo rD td;have sT:=zo sT td;have u9:=zo u9 td;have Iv:=zo Iv td;have So:=zo So td;have hp0:=pg 0 _ rfl;have lz:=pg 1 _ rfl;have fW:=pg 2 _ rfl;have pp:=pg 3 _ rfl;have mp:=pg 4 _ rfl;have Le:=pg 5 _ rfl;have M4:=pg 6 _ rfl;have wR:=pg 7 _ rfl;have C5:=pg 8 _ rfl;have nR:=pg 9 _ rfl;have aL:=pg 10 _ rfl;have hh9:=pg 11 _ rfl;clear pg hW td Bl;go_loopw [37] (fun s wr=>∃(k q:Nat),k≤M∧s= .int .i64 k∧(Q2 k).all (yF b)=true∧wr=W.drewN q) (fun s _=>M-(Vx s).toNat)
 case atStart=>exact⟨0,0,by omega,rfl,rfl,rfl⟩
 obtain⟨k,q,hk,rfl,BL,rfl⟩:=hrel;by_cases hlt:k<M
 ·have B1:RdB (W.drewN q) B A n c b:=(Rd.below hr (ew.mono hB)).drewN q;have dL:=za ew q;have mu:=hM3 k hlt;rcases(by omega:k=0∨k=1∨k=2∨k=3∨k=4∨k=5∨k=6∨k=7∨k=8∨k=9∨k=10∨k=11)with rfl|rfl|rfl|rfl|rfl|rfl|rfl|rfl|rfl|rfl|rfl|rfl
  ·have qqa1:=();exact Z22_
  ·have qqa2:=();exact Z22_
  ·have qqa3:=();exact Z22_
  ·exact Z22_
  ·have qqa4:=();exact Z22_
  ·have qqa5:=();exact Z22_
  ·skip
   have ck:yF b 6=true:=by
    (show decide ((b.getD 6 0).toNat≤255)=true);have hx:(b.getD 6 0).toNat<256:=(b.getD 6 0).toNat_lt;exact decide_eq_true (j8 hx)
   have dR:=qf BL ck;clear ck;go_wp2_with(with_reducible refine h_A ?_);refine(KD 6 _).mono ?_;rintro e w' ⟨rfl,rfl⟩;go_wp2_with(with_reducible refine h_A ?_);exact⟨⟨6+1,q,by omega,by go_num,dR,rfl⟩,by simp[Vx];try omega⟩
  ·skip
   have ck:yF b 7=true:=by
    (show decide ((b.getD 7 0).toNat≤255)=true);have hx:(b.getD 7 0).toNat<256:=(b.getD 7 0).toNat_lt;exact decide_eq_true (j8 hx)
   have dR:=qf BL ck;clear ck;go_wp2_with(with_reducible refine h_A ?_);refine(KD 7 _).mono ?_;rintro e w' ⟨rfl,rfl⟩;go_wp2_with(with_reducible refine h_A ?_);exact⟨⟨7+1,q,by omega,by go_num,dR,rfl⟩,by simp[Vx];try omega⟩
  ·have qqa6:=();exact Z22_
  ·have qqa7:=();exact Z22_
  ·have qqa8:=();exact Z22_
  have qqa9:=();exact Z22_
 obtain rfl:k=M:=by omega
 have HA:=Lib.hid BL;clear BL;go_wp2_with(with_reducible refine h_A ?_);go_ret;rw[HWL.out,HA.out];exact⟨rfl,za ew q⟩
def zW(b:List UInt8)(i:Nat):Nat:=(b.getD i 0).toNat
def frAt(b:List UInt8)(n:Nat):Fr:=⟨zW b 0 / 8 % 2==1,zW b 0 / 4 % 2==1,zW b 0 / 2 % 2==1,zW b 0 % 2==1,zW b 1,zW b 5,256*zW b 6+zW b 7,(b.take n).drop 12⟩
def qP:Nat→List UInt8→List Fr×Nat×Nat
 | 0,_=>([],0,0)
 | k+1,b=>if zN b=false then([],0,60)else if b.length<12 then([],0,0)else if b.length<frN b then([],0,0)else
  (frAt b (frN b)::(qP k (b.drop (frN b))).1,frN b+(qP k (b.drop (frN b))).2.1,(qP k (b.drop (frN b))).2.2)
def zu(b:List UInt8):List Fr×Nat×Nat:=qP (b.length+1) b
theorem qe(h:zN b=true)(hl:4≤b.length):12≤frN b∧frN b≤4096:=by
 unfold zN at h;rw[q2]at h;have:=h 3 (q3.2 Wq);simpa[yF]using this
theorem xU(h:zN b=true)(hk:k<b.length)(Bk:k<12)(h3:k≠3):zW b k≤xv k:=by
 unfold zN at h;rw[q2]at h;have:=h k (q3.2 Wq);simpa[yF,h3,zW]using this
theorem vO:∀(k j:Nat) (b:List UInt8),b.length<k→b.length<j→qP k b=qP j b
 | 0,_,b,h,_=>by omega
 | _,0,b,_,h=>by omega
 | k+1,j+1,b,hk,hj=>by
  rw[qP,qP];split
  ·rfl
  split
  ·rfl
  split
  ·rfl
  rename_i h1 h2 h3
  have hn:=(qe (by simpa using h1) Wq).1;have hl:(b.drop (frN b)).length<k∧(b.drop (frN b)).length<j:=by simp;omega
  rw[vO k j _ hl.1 hl.2]
theorem qz(h:zN b=false):zu b=([],0,60):=by rw[zu,qP,if_pos h]
theorem xd(h:zN b=true)(hl:b.length<12):zu b=([],0,0):=by rw[zu,qP,if_neg (by simp[h]),if_pos hl]
theorem qg(h:zN b=true)(hl:12≤b.length)(hn:b.length<frN b):zu b=([],0,0):=by rw[zu,qP,if_neg (by simp[h]),if_neg Wq,if_pos hn]
theorem qh(h:zN b=true)(hl:12≤b.length)(hn:frN b≤b.length):zu b=(frAt b (frN b)::(zu (b.drop (frN b))).1,frN b+(zu (b.drop (frN b))).2.1,(zu (b.drop (frN b))).2.2):=by
 have gc:=(qe h Wq).1;rw[zu,qP,if_neg (by simp[h]),if_neg Wq,if_neg Wq,vO b.length ((b.drop (frN b)).length+1) _ Hz Wq];rfl
theorem KC(b:List UInt8)(n:Nat):(frAt b n).wf:=by
 have h:∀i,zW b i<256:=fun i=>(b.getD i 0).toNat_lt
 exact⟨h 1,h 5,by show 256*zW b 6+zW b 7<65536;have:=h 6;have:=h 7;omega⟩
def frC(f:Fr):List Value:=[.bool f.first,.bool f.last,.bool f.beg,.bool f.fin,.int .u8 (f.ty:Int),.int .u8 (f.track:Int),.int .u16 (f.chan:Int),.string (str f.load)]
theorem yE:RecShape frC 8 where
 len:=fun _=>rfl
 one:=fun a u hu=>by simp[frC]at hu;rcases hu with rfl|rfl|rfl|rfl|rfl|rfl|rfl|rfl<;>rfl
 pos:=by omega
theorem slF:SlT prog 65 97 8 24 (.agg #[.bool false,.bool false,.bool false,.bool false,.int .u8 0,.int .u8 0,.int .u16 0,.string ⟨#[]⟩]):=SlT.mk' underlying65 Wj rfl Wq
abbrev OwnF(w:World)(base:Nat)(A:Option Addr)(n c:Nat)(l:List Fr):Prop:=Own w base 97 8 A n c (rowC frC l)
theorem zb9:∀x:Fin 16,((bits .and .u8 ((x.val:Nat):Int) 8 !=0)=(x.val / 8 % 2==1))∧((bits .and .u8 ((x.val:Nat):Int) 4 !=0)=(x.val / 4 % 2==1))∧((bits .and .u8 ((x.val:Nat):Int) 2 !=0)=(x.val / 2 % 2==1))∧((bits .and .u8 ((x.val:Nat):Int) 1 !=0)=(x.val % 2==1)):=by decide+kernel
structure BPl(T size off:Nat):Prop where
 lies:liesAt prog prog.depth T (size / prog.cellsOf T) off 59 1=true
 lt:off+1<size
theorem xW(hb:Box w g T cs)(u:Value):Box (w.setCell ⟨g,off,none⟩ u) g T (cs.setIfInBounds off u):=by
 unfold Box at hb ⊢;simp[kx,Array.getElem?_modify,hb]
theorem yC(w:World)(g off:Nat)(u:Value):w.grownBy (w.setCell ⟨g,off,none⟩ u) (some g):=
 ⟨rfl,rfl,rfl,by simp[kx],fun k _ hk=>Below.heap_setCell _ _ _ _ (fun e=>hk (by simp[e]))⟩
theorem zaN(w:World)(g off:Nat)(u:Value):(w.setCell ⟨g,off,none⟩ u).heap.size=w.heap.size:=by simp[kx]
def bPtr(g off:Nat):Value:=.pointer (some ⟨g,off,none⟩)
theorem xx{P:Program}{ops:Array Oper}{Q:Exit→Act→World→Prop}{rest:List Oper}{a:Act}{o:Oper}{x y:Operand}{t ty j:Nat}{v:Value}(hw:Region.wanted o (yielded ops a.tmps)=true)(ho:o.op= .store ty x y)(hx:a.eval x= .pointer (some ⟨g,j,none⟩))(hy:a.eval y=v)
  (hb:Box w g t cs) (hv:v.cells.toList=[v]) (hi:(P.info? ty).map (·.size)=some 1) (hj:j<cs.size)
  (h:∀w',Box w' g t (cs.setIfInBounds j v)→w.grownBy w' (some g)→w'.heap.size=w.heap.size→wpList P ops Q rest (a.put o.dst undef) w') (h1:v.oneCell'=true:=by rfl):wpList P ops Q (o::rest) a w:=
 zn hw ho hx hy hb hv hi Hz (by simpa using h1) (cs.setIfInBounds j v) (by
  apply Array.ext';simp only[Array.toList_setIfInBounds];rw[List.set_eq_take_append_cons_drop,if_pos (by simpa using hj)]
  simp) h
theorem v8(h:Own w base 5 1 A n c (l.map u8v)):l.length=n:=by have:=h.1;simpa using this
theorem kY(hp:BPl T size off)(w:World)(cs:Array Value)(hb:Box w g T cs)(hs:cs.size=size)(p:Value)(h0:cs[off]?=some p)(L8:p= .pointer none∨p=bPtr g off):
  Calls prog 49 #[.pointer (some ⟨g,off,none⟩)] w fun e w'=>e= .returned (.tuple #[])∧Box w' g T (cs.setIfInBounds off (bPtr g off))∧w.grownBy w' (some g)∧w'.heap.size=w.heap.size:=by
 obtain⟨j,hj,hjs⟩:=Option.map_eq_some_iff.1 (show(prog.info? 59).map (·.size)=some 2 by kernel_rfl);have nW:w.shape? g=some (T,size):=by unfold Box at hb;simp[World.shape?,hb,hs]
 have F3:=hb.thaw off;have c0:=hb.cell h0;rcases L8 with rfl|rfl
 ·have GP:=Lib.run_to_unsafe (P:=prog) w ⟨g,off,none⟩ underlying57 underlying139 hj (by rw[hjs];decide) nW (by have:=hp.lt;exact Nat.lt_of_succ_lt this);have hU2:=Lib.run_from_unsafe (P:=prog) w ⟨g,off,none⟩ underlying139 underlying57 hj nW hp.lies;have hF:=xW hb (off:=off) (bPtr g off);have hG:=yC w g off (bPtr g off);have hZ:=zaN w g off (bPtr g off);have HQ:=Lib.hid (And.intro hF (And.intro hG hZ));clear hF hG hZ;go_enter func49,ntmps49;go_wp2;rw[run_callFunc_extern func68 Wj Wj Wj (e:=Extern.AbiNoEscape.same) Wj];rw[Lib.run_noEscape];simp only[Result.andThen];rw[Oper.upon_value];go_wp2;go_end0;exact⟨rfl,HQ.out⟩
 have hne:=Lib.run_neq_ptr_same (P:=prog) w (⟨g,off,none⟩:Addr) underlying57 hj
 have fX:cs.setIfInBounds off (bPtr g off)=cs:=by
  apply Array.ext
  ·simp
  intro i h1 h2;rw[Array.getElem_setIfInBounds];split
  ·rename_i e;subst e;rw[Array.getElem?_eq_getElem h2]at h0;injection h0 with h0;exact h0.symm
  rfl
 rw[fX];unfold bPtr at c0;go_enter func49,ntmps49;go_wp2;go_end0;exact⟨rfl,hb,⟨rfl,rfl,rfl,Q1 _,fun _ _ _=>rfl⟩,rfl⟩
theorem QV{u v:Value}(h:cs[off+1]?=some v):(cs.setIfInBounds off u)[off+1]?=some v:=by
 rw[Array.getElem?_setIfInBounds_ne Wq];exact h
structure Wrote(w:World)(T g off base:Nat)(cs:Array Value)(A:Option Addr)(l:List UInt8)(w':World):Prop where
 ex:∃A2 c2,Box w' g T ((cs.setIfInBounds off (bPtr g off)).setIfInBounds (off+1) (.slice A2 l.length c2))∧Own w' base 5 1 A2 l.length c2 (l.map u8v)∧blk A2≠some g∧(blk A2=blk A∨∀k,blk A2=some k→w.heap.size≤k)
 keep:KeepF (fun k=>k=g∨blk A=some k) w w'
theorem QW{w1 w2 w3:World}{m c2:Nat}{A2:Option Addr}(hb:Box w g T cs)(Hl:Own w base 5 1 A n m (l.map u8v))(hne:blk A≠some g){L:List UInt8}{N:Nat}(hN:N=L.length)
  (bK:Box w1 g T (cs.setIfInBounds off (bPtr g off))) (bN:w.grownBy w1 (some g)) (cy:w1.heap.size=w.heap.size) (bW:Own w2 base 5 1 A2 N c2 (L.map u8v)) (Hm:w1.grownBy w2 (blk A)) (hA:blk A2=blk A∨∀k,blk A2=some k→w1.heap.size≤k)
  (bX:Box w3 g T ((cs.setIfInBounds off (bPtr g off)).setIfInBounds (off+1) (.slice A2 N c2))) (H6:w2.grownBy w3 (some g)):Wrote w T g off base cs A L w3:=by
 subst hN;have fL:=hb.lt
 have eE:blk A2≠some g:=fun e=>by
  rcases hA with h|h
  ·exact hne (by rw[←h,e])
  have:=h g e;omega
 refine⟨⟨A2,c2,bX,zk bW H6 (fun k hk e=>eE zAb),eE,hA.imp id (fun h k hk=>by have:=h k hk;omega)⟩,?_⟩;refine((KeepF.grown bN (fun k hk=>.inl (.inl uj))).trans (.grown (F:=fun k=>k=g∨blk A=some k) Hm (fun k hk=>.inl (.inr hk))) (fun k hk=>.inl hk)).trans (.grown (F:=fun k=>k=g∨blk A=some k) H6 (fun k hk=>.inl (.inl uj))) (fun k hk=>.inl hk)
theorem Qd{F:Nat→Prop}(g n:Nat)(hF:F g):KeepF F w ((w.drew).freeze ⟨g,0,none⟩ n):=by
 unfold World.freeze;split
 ·exact .below (zB (KL _ w))
 refine⟨by simp,fun k hk hn=>?_,⟨rfl,rfl,rfl⟩⟩;simp only[Array.getElem?_modify];rw[if_neg (fun e=>hn (by rw[←e];exact hF))];rfl
theorem Za(w:World)(cs:Array Value)(hb:Box w g T cs)(A:Option Addr)(l:List UInt8)(h1:cs[off+1]?=some (.slice A n c))(Hl:Own w base 5 1 A n c (l.map u8v)):
  Calls prog 27 #[.pointer (some ⟨g,off,none⟩)] w fun e w'=>e= .returned (.string (str l))∧KeepF (fun k=>blk A=some k) w w':=by
 have k1:=hb.cell h1;have fL:=hb.lt;have BC:=v8 Hl;have ak:=fun(W:World) (q:Option Addr)=>Lib.run_unsafeString_none (P:=prog) W 99 3 9 q
 have HO:=Hl;rcases Hl.2 with⟨hv,hx⟩|⟨gb,cap,cur,hv,eG,hg,iy,rV,fX,gB⟩
 ·injection hv with e1 e2 e3
  subst e1;have fD:l=[]:=zA Wq;subst fD;subst hx e3;have k2:w.drew.cell? ⟨g,off+1,none⟩=some (.slice none 0 0):=k1;have IN:(Builtin.unsafeSliceData_ #[55] 99 #[.slice none 0 0]).run prog w.drew= .ok (.pointer none) w.drew:=rfl;clear ak HO Hl BC;have hUS:=Lib.run_unsafeString_none (P:=prog) w.drew 99 3 9 none;clear hb h1 fL;exact Z55_
 injection hv with e1 e2 e3
 subst e1 e3;have k2:w.drew.cell? ⟨g,off+1,none⟩=some (.slice (some ⟨gb,0,none⟩) n c):=k1;by_cases oh:n=0
 ·subst oh;have fD:l=[]:=zA BC;subst fD;by_cases gV:c=0
  ·subst gV
   have IN:(Builtin.unsafeSliceData_ #[55] 99 #[.slice (some ⟨gb,0,none⟩) 0 0]).run prog w.drew= .ok (.pointer (some ⟨w.drew.heap.size,0,none⟩)) (w.drew.alloc (.view ⟨gb,0,none⟩ 5)):=
    Lib.run_unsafeSliceData_zero w.drew _ _ 5 underlying99 ⟨gb,0,none⟩ 0 (5,cur.size) MQ
   have bF:Box (w.drew.alloc (.view ⟨gb,0,none⟩ 5)) g T cs:=(show Box w.drew g T cs from hb).alloc _;have k3:(w.drew.alloc (.view ⟨gb,0,none⟩ 5)).cell? ⟨g,off+1,none⟩=some (.slice (some ⟨gb,0,none⟩) 0 0):=bF.cell h1;have k4:(w.alloc (.view ⟨gb,0,none⟩ 5)).drew.cell? ⟨g,off+1,none⟩=some (.slice (some ⟨gb,0,none⟩) 0 0):=k3;clear HO Hl BC hb h1 fL hg iy rV fX gB eG bF;go_enter func27,ntmps27;go_wp2;go_region;all_goals(go_wp2;go_ret;exact⟨rfl,.below ((zB (KL _ w)).alloc (Q1 _) _)⟩)
  have IN:(Builtin.unsafeSliceData_ #[55] 99 #[.slice (some ⟨gb,0,none⟩) 0 c]).run prog w.drew= .ok (.pointer (some ⟨gb,0,none⟩)) w.drew:=
   Lib.run_unsafeSliceData_row _ _ _ _ _ _ gV
  clear HO Hl BC hb h1 fL hg iy rV fX gB eG gV;exact Z55_
 have fD:l≠ []:=fun e=>oh (by rw[←BC,e];rfl)
 have IN:(Builtin.unsafeSliceData_ #[55] 99 #[.slice (some ⟨gb,0,none⟩) n c]).run prog w.drew= .ok (.pointer (some ⟨gb,0,none⟩)) w.drew:=
  Lib.run_unsafeSliceData_row _ _ _ _ _ _ Wq
 have hUS:(Builtin.unsafeString_ #[99,3] 9 #[.pointer (some ⟨gb,0,none⟩),.int .i64 (n:Int)]).run prog w.drew= .ok (.string (str l)) (w.drew.freeze ⟨gb,0,none⟩ n):=by
  have:=Lib.run_unsafeString_row (P:=prog) w.drew 99 3 9 5 underlying99 Wj gb cur.size MQ l fD (by rw[fX];omega) (by unfold maxLen at rV;omega) (by
   intro j x hx;have:=HO.cells (g:=gb) rfl j (.int .u8 x.toNat) (by simp[u8v,hx])
   exact this)
  rw[BC]at this;exact this
 have HK:=Lib.hid (Qd (w:=w) (F:=fun k=>blk (some (⟨gb,0,none⟩:Addr))=some k) gb n rfl);have Bx:(n:Int)≤9223372036854775807:=by unfold maxLen at rV;omega
 clear HO Hl BC hb h1 fL hg iy rV fX gB eG oh fD;go_enter func27,ntmps27;go_wp2;go_region;all_goals(go_wp2;go_ret;exact⟨rfl,HK.out⟩)
theorem YG(hp:BPl T size off)(w:World)(cs:Array Value)(hb:Box w g T cs)(hs:cs.size=size)(p:Value)(h0:cs[off]?=some p)(L8:p= .pointer none∨p=bPtr g off)(A:Option Addr)(l s:List UInt8)(h1:cs[off+1]?=some (.slice A n c))
  (Hl:Own w base 5 1 A n c (l.map u8v)) (hne:blk A≠some g) (Hf:base≤w.heap.size) (Bw:n+s.length≤100000000000):
  Calls prog 35 #[.pointer (some ⟨g,off,none⟩),.string (str s)] w fun e w'=>e= .returned (.tuple #[.int .i64 (s.length:Int),.nilIface])∧Wrote w T g off base cs A (l++s) w':=by
 have qq7z:=();exact Z1g_
theorem JF{m c' B:Nat}(hp:BPl T size off)(w:World)(cs:Array Value)(hb:Box w g T cs)(hs:cs.size=size)(p:Value)(h0:cs[off]?=some p)(L8:p= .pointer none∨p=bPtr g off)(A A':Option Addr)(l s:List UInt8)(h1:cs[off+1]?=some (.slice A n c))
  (Hl:Own w base 5 1 A n c (l.map u8v)) (hne:blk A≠some g) (Hf:base≤w.heap.size) (hr:RdB w B A' m c' s) (mE:blk A'≠some g) (Bw:n+m≤100000000000):
  Calls prog 46 #[.pointer (some ⟨g,off,none⟩),.slice A' m c'] w fun e w'=>e= .returned (.tuple #[.int .i64 (m:Int),.nilIface])∧Wrote w T g off base cs A (l++s) w':=by
 exact Z1g_
theorem Zt(w:World)(cs:Array Value)(hb:Box w g T cs)(h0:off+1<cs.size):
  Calls prog 24 #[.pointer (some ⟨g,off,none⟩)] w fun e w'=>e= .returned (.tuple #[])∧Box w' g T ((cs.setIfInBounds off (.pointer none)).setIfInBounds (off+1) (.slice none 0 0))∧w.grownBy w' (some g)∧w'.heap.size=w.heap.size:=by
 have hlt:off<cs.size:=by omega
 go_enter func24,ntmps24;go_wp2_with(with_reducible refine h_B ?_);refine zc (xx rfl rfl rfl rfl hb (j:=off) (v:=.pointer none) rfl Wj hlt ?_);intro w1 bK bN cy;have HZ:=Lib.hid cy;clear cy;have pY:off+1<(cs.setIfInBounds off (.pointer none)).size:=by rw[Array.size_setIfInBounds];exact h0
 go_wp2_with(with_reducible refine h_B ?_);refine zc (xx rfl rfl rfl rfl bK (j:=off+1) (v:=.slice none 0 0) rfl Wj pY ?_);intro w2 bF Hm ep;have MA:=Lib.hid ep;clear ep;go_wp2_with(with_reducible refine h_B ?_);go_end0;exact⟨rfl,bF,World.grownBy.trans bN Hm,MA.out.trans HZ.out⟩
theorem qm(x:Int)(w:World):Calls prog 80 #[.int .i64 x] w fun e w'=>e= .returned (.bool (qJ x))∧w'=w:=by
 have qq9u:=();exact Z1z_
theorem jo(A:Option Addr)(n c:Nat)(l:List UInt8)(A':Option Addr)(n' c':Nat)(l':List UInt8)(w:World)(hb:RdB w w.heap.size A n c l)(nF:RdB w w.heap.size A' n' c' l')(hn:n+n'≤281474976710656):
  Calls prog 99 #[.slice A n c,.slice A' n' c'] w fun e w'=>∃A2,e= .returned (.slice A2 (n+n') (n+n'))∧Own w' w.heap.size 5 1 A2 (n+n') (n+n') ((l++l').map u8v)∧Below w.heap.size w w':=by
 have hl:=hb.length;have iV:=nF.length;go_enter func99,ntmps99;go_wp2_with(with_reducible refine h_A ?_);refine zc (Ky slB rfl rfl 0 (n+n') rfl rfl Wq Wq Wq Wq UJ w.heap.size (Q1 _) ?_);intro w1 cV bN;have Ha:Below w.heap.size w w1:=(KL _ _).grown bN (Q1 _) Wz;have cy:=Ha.size;simp only[k0,List.take_zero]at cV;go_wp2_with(with_reducible refine h_A ?_);refine zc (Z4 slB rfl rfl rfl rfl cV (hb.below Ha) (zM l) Wq cy ?_);intro w2 bW Hm;have Hc:Below w.heap.size w w2:=Ha.grown Hm cy (fun g hg=>(cV.blk_lt hg).1);have ep:=Hc.size;simp only[q5,q1]at bW;go_wp2_with(with_reducible refine h_A ?_);refine zc (Z4 slB rfl rfl rfl rfl bW (nF.below Hc) (zM l') Wq ep ?_);intro w3 Bv H6;have Hh:Below w.heap.size w w3:=Hc.grown H6 ep (fun g hg=>(bW.blk_lt hg).1);rw[←List.map_append]at Bv;go_wp2_with(with_reducible refine h_A ?_);go_ret;exact⟨_,by first|rfl|simp,by simpa using Bv,Hh⟩
theorem shr8(n k:Nat):(n:Int) / 2 ^ (8*k) % 256=(((UInt8.ofNat (n / 256 ^ k)).toNat:Nat):Int):=by
 rw[UInt8.toNat_ofNat',show(256:Nat) ^ k=2 ^ (8*k) by rw[Nat.pow_mul]];rw[Int.natCast_emod,Int.natCast_ediv,Int.natCast_pow];rfl
theorem ke(n i:Nat)(w:World)(_hn:n<18446744073709551616)(hi:1≤i)(hi8:i≤8):
  Calls prog 100 #[.int .u64 n,.int .i64 i] w fun e w'=>∃A2,e= .returned (.slice A2 i i)∧Own w' w.heap.size 5 1 A2 i i ((be i n).map u8v)∧Below w.heap.size w w':=by
 go_enter func100,ntmps100;go_wp2_with(with_reducible refine h_A ?_);refine zc (Ky slB rfl rfl i i rfl rfl Wq Wq (Q1 _) Wq UJ w.heap.size (Q1 _) ?_);intro w1 cV bN;have Ha:Below w.heap.size w w1:=(KL _ _).grown bN (Q1 _) Wz;have cy:=Ha.size
 have wG:(madeCells (Value.int .u8 0).cells (i*1)).toList.take (i*1)=(z0 (i-0) 0++be 0 n).map u8v:=by
  simp[Value.cells,toList_madeCells_one,u8v,be]
 rw[wG]at cV;go_wp2_with(with_reducible refine h_A ?_);go_loopw [11] (fun x wr=>∃k:Nat,k≤i∧x= .int .i64 k∧Own wr w.heap.size 5 1 (some ⟨w.heap.size,0,none⟩) i i ((z0 (i-k) 0++be k n).map u8v)∧Below w.heap.size w wr) (fun x _=>i-(Vx x).toNat)
 case atStart=>exact⟨0,by omega,rfl,cV,Ha⟩
 obtain⟨k,hk,rfl,ho,hB⟩:=hrel;by_cases hlt:k<i
 ·obtain⟨g,cf,eG,fL,bI,ez,F3,bV⟩:=OwnB.at_k ho (k:=i-1-k) Wq;obtain rfl:w.heap.size=g:=by injection cf with h;injection h
  have h1:=bV (UInt8.ofNat (n / 256 ^ k));rw[zcX i n k hlt]at h1;have e8:=shr8 n k;unfold u8v at h1;rw[←e8]at h1;clear bV e8;go_wp2_with(with_reducible refine h_A ?_);exact⟨⟨k+1,by omega,by go_num,h1,hB.setCell Wq _⟩,by simp[Vx];omega⟩
 obtain rfl:k=i:=by omega
 rw[j2,List.replicate_zero,q1]at ho;go_wp2_with(with_reducible refine h_A ?_);go_ret;exact⟨_,rfl,ho,hB⟩
end Go.PH
