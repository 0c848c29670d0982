/- Parts. -/
import Derived.Test.YtfbkameikhgciaaGreatDoorMh03
import Derived.Test.YtfbkameikhgciaaGreatDoorMh05
set_option linter.all false
set_option maxRecDepth 20000
set_option maxHeartbeats 8000000
namespace Go.PH
open Go.RowKit Go.Proofs Go.Proofs.Tryz
theorem zaS(a b:Xd)(w:World):(binOp .eql 73 (.agg (xdV a)) (.agg (xdV b))).run prog w= .ok (.bool (decide (a=b))) w:=by
 rw[run_eql_struct,Xp];rfl
theorem qS(w:World)(cs ds:Array Value)(t:TypeId):∃(ab rb:Nat) (v:World),ab=w.heap.size∧rb=w.heap.size+1∧v=(w.alloc (.cells cs t)).alloc (.cells ds t)∧Box v ab t cs∧Box v rb t ds∧Below w.heap.size w v:=
 ⟨_,_,_,rfl,rfl,rfl,(Box.new w cs t).alloc _,by have:=Box.new (w.alloc (.cells cs t)) ds t;rwa[show(w.alloc (.cells cs t)).heap.size=w.heap.size+1 by simp]at this,((Below.refl _ _).alloc (Nat.le_refl _) _).alloc Wz _⟩
theorem zz:Maps.Keyed prog 5:=Maps.int_keyed underlying5
structure SA where
 is:Bool
 n:Nat
 s:List UInt8
def saC(a:SA):List Value:=[.bool a.is,.int .u64 (a.n:Int),.string (str a.s),.int .u32 0,.string ⟨#[]⟩,.string ⟨#[]⟩,.slice none 0 0,.int .u8 0,.int .u64 0,.string ⟨#[]⟩,.slice none 0 0,.slice none 0 0]
theorem zci:RecShape saC 12 where
 len _:=rfl
 one a u hu:=by simp[saC]at hu;rcases hu with rfl|rfl|rfl|rfl|rfl|rfl|rfl|rfl|rfl|rfl|rfl|rfl<;>rfl
 pos:=by omega
def zF:List SA→Nat
 | []=>0
 | a::l=>(if a.is then 1 else 0)+2*zF l
theorem Ql(l:List SA)(a:SA):zF (l++ [a])=zF l+(if a.is then 2 ^ l.length else 0):=by
 induction l with
 | nil=>simp[zF]
 | cons b l ih=>
  simp only[List.cons_append,zF,ih,List.length_cons,Nat.pow_succ];generalize 2 ^ l.length=p;generalize zF l=f
  cases a.is<;>cases b.is<;>simp<;>omega
theorem xq(l:List SA):zF l<2 ^ l.length:=by
 induction l with
 | nil=>simp[zF]
 | cons b l ih=>
  simp only[zF,List.length_cons,Nat.pow_succ];split<;>omega
theorem zcj:∀k:Fin 8,∀f:Fin 256,f.val<2 ^ k.val→bits .or .u64 ((f.val:Nat):Int) ((2 ^ k.val:Nat):Int)=((f.val+2 ^ k.val:Nat):Int):=by decide+kernel
theorem kE(c:Nat)(w:World):Calls prog 70 #[.int .u8 (c:Int)] w fun e w'=>e= .returned (.bool (decide (c≤2)))∧w=w':=by
 by_cases h:c≤2
 ·have h1:(c:Int)≤2:=by omega
  have h2:decide (c≤2)=true:=by simpa using h
  exact Z5m_
 have h1:¬(c:Int)≤2:=by omega
 have h2:decide (c≤2)=false:=by simpa using h
 exact Z5m_
theorem KM(w:World)(a:Addr)(u:Value):w.grownBy (w.setCell a u) (some a.block):=
 ⟨rfl,rfl,rfl,by simp,fun k _ hk=>Below.heap_setCell _ _ _ k (fun e=>hk (by rw[e]))⟩
def kF(cls code:Nat)(sync:Bool)(flags:Nat):List UInt8:=[UInt8.ofNat cls,UInt8.ofNat code]++(if cls≤2 then []else [1,if sync then 1 else 0])++be 2 flags
theorem kW(n:Nat)(s:List UInt8)(w:World):
  Calls prog 37 #[.int .u64 (n:Int),.string (str s)] w fun e w'=>e= .returned (.agg #[.bool true,.int .u64 (n:Int),.string (str s),.int .u32 0,.string ⟨#[]⟩,.string ⟨#[]⟩,.slice none 0 0,.int .u8 0,.int .u64 0,.string ⟨#[]⟩,.slice none 0 0,.slice none 0 0])∧Below w.heap.size w w':=by
 exact Z1q_
def CtlC(code:Nat)(L:List SA)(bs:List UInt8):Prop:=
 ∀(A:Option Addr) (n c:Nat) (w:World),MEnv w→Rd w w.heap.size 12 A n c (rowC saC L)→
  Calls prog 50 #[.agg #[.int .u8 1,.int .u8 (code:Int),.bool false,.slice A n c]] w fun e w'=>∃A2 c2,e= .returned (.tuple #[.slice A2 bs.length c2,.int .i64 0])∧OwnB w' w.heap.size A2 bs.length c2 bs∧Below w.heap.size w w'
def ctlB(sz:Nat)(bs:List UInt8):List UInt8:=qR ((sz:Int)-12) ⟨0,0,[⟨0,bs⟩]⟩
theorem bplL:BPl 61 8 5:=⟨by kernel_rfl,by omega⟩
theorem Wrote.from{w w1 w':World}{T g off base:Nat}{cs:Array Value}{A:Option Addr}{l:List UInt8}(h:Wrote w1 T g off base cs A l w')(hB:Below w.heap.size w w1):Wrote w T g off base cs A l w':=by
 obtain⟨⟨A2,c2,h1,h2,h3,h4⟩,h5⟩:=h;exact⟨⟨A2,c2,h1,h2,h3,h4.imp id (fun e k hk=>by have:=e k hk;have:=hB.size;omega)⟩,(KeepF.below hB).trans h5 (fun k hk=>.inl hk)⟩
theorem Zu(code:Nat)(L:List SA)(bs:List UInt8)(B6:CtlC code L bs)(iT:bs.length≤10000)(lb sz base sn sc:Nat)(cs:Array Value)(p:Value)(SA:Option Addr)(l:List UInt8)(A:Option Addr)(n c:Nat)(w:World)(he:MEnv w)(hr:Rd w w.heap.size 12 A n c (rowC saC L))
  (hb:Box w lb 61 cs) (hs:cs.size=8) (h4:cs[4]?=some (.int .u64 (sz:Int))) (Bm:sz≤1000000) (h5:cs[5]?=some p) (hp:p= .pointer none∨p=bPtr lb 5) (h6:cs[6]?=some (.slice SA sn sc)) (Hl:Own w base 5 1 SA sn sc (l.map u8v)) (hne:blk SA≠some lb) (Hf:base≤w.heap.size) (tF:sn≤10000000000):
  Calls prog 36 #[.pointer (some ⟨lb,0,none⟩),.int .u8 (code:Int),.slice A n c] w fun e w'=>e= .returned (.tuple #[])∧Wrote w 61 lb 5 base cs SA (l++ctlB sz bs) w':=by
 exact Z1i_
theorem Z2(A:Option Addr)(n c:Nat)(l:List UInt8)(A':Option Addr)(n' c':Nat)(l':List UInt8)(B B':Nat)(w:World)(hr:RdB w B A n c l)(oc:RdB w B' A' n' c' l')(hn:n≤140737488351240)(Ff:n'≤140737488351240):
  Calls prog 110 #[.slice A n c,.slice A' n' c'] w fun e w'=>e= .returned (.bool (decide (l=l')))∧w=w':=by
 have h1:=jm (P:=prog) underlying55 underlying9 underlying5 hr;have h2:=jm (P:=prog) underlying55 underlying9 underlying5 oc;by_cases h:l=l'
 ·have hq:((str l).toList==(str l').toList)=true:=by rw[zn,zn];simpa using h
  rw[decide_eq_true h];exact Z5s_
 have hq:((str l).toList==(str l').toList)=false:=by rw[zn,zn];simpa using h
 rw[decide_eq_false h];exact Z5s_
theorem yT(w:World)(cs:Array Value)(t:TypeId):∃(b:Nat) (v:World),b=w.heap.size∧v=w.alloc (.cells cs t)∧Box v b t cs∧Below w.heap.size w v:=
 ⟨_,_,rfl,rfl,Box.new w cs t,(Below.refl _ _).alloc (Nat.le_refl _) _⟩
theorem qP{a b:Int}{s:Bool}{A:Option Addr}{n c:Nat}:∀u∈ [Value.int .u8 a,.int .u8 b,.bool s,.slice A n c],u.oneCell'=true:=by
 intro u hu;simp at hu;rcases hu with rfl|rfl|rfl|rfl<;>rfl
end Go.PH
