/- Parts. -/
import Derived.Test.YtfbkameikhgciaaGreatDoorMg15
set_option linter.all false
set_option maxRecDepth 20000
set_option maxHeartbeats 8000000
open Go.Lib renaming hid → Q1
open List renaming length_append → K0, mem_cons → K1, take_of_length_le → K2, not_mem_nil → Wb, map_drop → Vy, getElem_mem → q3, drop_left → q7, getElem_toArray → q8, getElem_cons_zero → q9, setIfInBounds_toArray → kI, set_cons_zero → kv, set_cons_succ → ky
open Nat renaming le_refl → Q2, zero_le → KL, mul_one → KS, le_trans → Vx
open Go.World renaming block_lt_of_cell? → q6
namespace Go.PH
open Go.RowKit Go.Proofs Go.Proofs.Tryz
variable {bad is : Bool} {e : Ending} {l : List UInt8} {B N S ab cb k o rb vb : Nat} {F : Nat → Prop} {W w w' : World}
def MRd(w:World)(B rb:Nat)(l:List UInt8)(bad:Bool):Prop:=∃A n c,Box w rb 194 #[.slice A n c,.bool bad]∧RdB w B A n c l∧n≤140737488351232
theorem MRd.kp{x y:Nat}(h:MRd w B rb l bad)(hK:KP B x y w w')(h1:rb≠x)(h2:rb≠y):MRd w' B rb l bad:=by
 obtain⟨A,n,c,hb,hr,hn⟩:=h;exact⟨A,n,c,hK.box hb h1 h2,hr.below hK.1,hn⟩
theorem ZO(h:MRd w B rb l bad)(hB:B≤rb)(k e:Int)(hb:bad=true∨e≠0):
  Calls prog 160 #[.pointer (some ⟨rb,0,none⟩),.int .i64 k,.int .i64 e] w fun e' w'=>e'= .returned (.tuple #[])∧MRd w' B rb l true∧w.grownBy w' (some rb):=by
 obtain⟨A,n,c,dh,hr,hn⟩:=h;have c1:=dh.c1;have fZ:=dh.lt
 cases bad
 ·exact Z2o_
 have qqc6:=();exact Z2o_
theorem Je(h:MRd w B rb l false)(hB:B≤rb)(k:Nat)(hk:k≤l.length):
  Calls prog 160 #[.pointer (some ⟨rb,0,none⟩),.int .i64 (k:Int),.int .i64 0] w fun e' w'=>e'= .returned (.tuple #[])∧MRd w' B rb (l.drop k) false∧w.grownBy w' (some rb):=by
 obtain⟨A,n,c,dh,hr,hn⟩:=h;have BC:l.length=n:=RdB.length hr;have c1:=dh.c1;have fZ:=dh.lt;go_enter func160,ntmps160;go_wp2_with(with_reducible refine h_B ?_);refine zc (zn (v:=.bool false) (vs:=[.bool false]) rfl rfl rfl rfl dh rfl Wj Wz wX #[.slice A n c,.bool false] Wz ?_);intro w2 bF Hm _;have cH:RdB w2 B A n c l:=hr.grown Hm Wq Wx;have c0:=bF.c0;have c1:=bF.c1;go_wp2_with(with_reducible refine h_S ?_);refine zc (kD slB rfl rfl rfl cH k n c (.inr ⟨_,_,rfl,rfl⟩) (.inl ⟨rfl,rfl⟩) (.inl ⟨rfl,rfl⟩) mq Wq (by have:=cH.cap;omega) (Q2 _) (Q2 _) ?_);intro A2 cj _;have e3:((l.map u8v).take (n*1)).drop (k*1)=(l.drop k).map u8v:=by rw[KS,KS,K2 Hz,Vy]
 rw[e3]at cj;clear e3;go_wp2_with(with_reducible refine h_B ?_);refine zc (zn (v:=.slice A2 (n-k) (c-k)) (vs:=[.slice A2 (n-k) (c-k)]) rfl rfl rfl rfl bF rfl Wj Wz wX #[.slice A2 (n-k) (c-k),.bool false] Wz ?_);intro w3 bX H6 _;go_wp2_with(with_reducible refine h_A ?_);go_end0;have Pa:w.grownBy w3 (some rb):=Hm.trans H6;refine⟨rfl,⟨A2,n-k,c-k,bX,?_,by omega⟩,Pa⟩;have cQ:RdB w2 B A2 (n-k) (c-k) (l.drop k):=cj;exact cQ.grown H6 (by have:=bF.lt;omega) Wx
theorem KP.wide{W':World}(h:KP B rb ab w W)(k:KP B ab vb W W')(hv:w.heap.size≤vb):KP B rb ab w W':=
 ⟨h.1.trans k.1,fun g hg h1 h2=>(k.2 g (Nat.lt_of_lt_of_le hg h.size) h2 Wq).trans (h.2 g hg h1 h2)⟩
def OctR(w:World)(B rb ab:Nat)(l:List UInt8)(bad:Bool)(cells:Array Value)(e:Ending)(w':World):Prop:=e= .returned (.tuple #[])∧Box w' ab 80 cells∧MRd w' B rb l bad∧KP B rb ab w w'
theorem js(Fn:FuncId)(cap:Array Value)(Um:∀(args:Array Value) (w:World),(callFunc Fn args).run prog w= .ok (.enter Fn args) w)(h:MRd w B rb l bad)(hB:B≤rb)(cells cells':Array Value)(ha:Box w ab 80 cells)(Bo:B≤ab)(hne:ab≠rb)(l2:List UInt8)(b2:Bool)(cN:l2.length≤l.length)
  (bC:∀(W:World) (o vb:Nat) (F:Nat→Prop),Below w.heap.size w W→Rdr F W (.pointer (some ⟨o,0,none⟩)) (some vb) l false→(∀g,F g→w.heap.size≤g∧g<W.heap.size)→Box W ab 80 cells→
   Calls prog Fn (#[.pointer (some ⟨o,0,none⟩)]++cap) W fun e W'=>e= .returned (.tuple #[])∧Rdr F W' (.pointer (some ⟨o,0,none⟩)) (some vb) l2 b2∧Box W' ab 80 cells'∧KP B ab vb W W'):
  Calls prog 152 #[.pointer (some ⟨rb,0,none⟩),.func (.func Fn) #[] cap] w (OctR w B rb ab (if(bad||b2)=true then l else l.drop (l.length-l2.length)) (bad||b2) cells'):=by
 obtain⟨lr,fp⟩:∃x,x=(if(bad||b2)=true then l else l.drop (l.length-l2.length)):=⟨_,rfl⟩
 obtain⟨br,bU⟩:∃x,x=(bad||b2):=⟨_,rfl⟩
 rw[←fp,←bU];have oT:=Q1 fp;have og:=Q1 bU;clear fp bU;obtain⟨A,n,c,dh,hr,hn⟩:=h;have BC:l.length=n:=RdB.length hr;have fZ:=dh.lt;have CP:=ha.lt;have bL:B≤w.heap.size:=by omega
 have CE:=qC A n c l w (yS hr bL) Wq;have c0:=dh.c0;have Gv:=Q1 bC;clear bC;go_enter func152,ntmps152;go_wp2_with(with_reducible refine h_A ?_);refine CE.mono ?_;rintro e w2 ⟨o,vb,rfl,ho,hv,B4,Hc⟩;have db:=ha.below Hc;have bF:=dh.below Hc;have cH:=hr.below (Hc.mono bL);have dS:=(KP.refl B rb ab w).below bL Hc;have Ln:=B4.inF rfl;have dK:=Gv.out w2 o vb _ Hc B4 (fun g hg=>hg) db;clear CE c0 Gv ha dh hr;go_wp2_with(with_reducible refine h_A ?_);refine dK.mono ?_;rintro e w3 ⟨rfl,rB,ml,BQ⟩;have bX:=BQ.box bF (Ne.symm hne) Wq;have cj:=cH.below BQ.1;have hK:=dS.wide BQ hv;clear dK bF cH db BQ dS;have c1:=bX.c1;have dG:=bX.lt;go_upto_region 2 with fail
 cases bad
 ·have im:=yD rB
  cases b2
  ·have qq5c:=();exact Zu_
  exact Zu_
 have qq5b:=();exact Zu_
theorem zcz(is:Bool)(T:_)(hT:T=mnum l false 1)(hr:Rdr F W (.pointer (some ⟨o,0,none⟩)) (some vb) l false)(Bm:Box W cb 198 #[.pointer (some ⟨ab,0,none⟩)])(ha:Box W ab 80 #[.bool is,.int .u64 0,.string ⟨#[]⟩,.int .u32 0,.string ⟨#[]⟩,.string ⟨#[]⟩,.slice none 0 0,.int .u8 0,.int .u64 0,.string ⟨#[]⟩,.slice none 0 0,.slice none 0 0])(iG:¬F ab)(N3:vb≠cb)(DD:vb≠ab)(NT:cb≠ab)(hBa:B≤ab)(pi:B≤vb)(ew:B≤W.heap.size):
  Calls prog 153 #[.pointer (some ⟨o,0,none⟩),.pointer (some ⟨cb,0,none⟩)] W fun e W'=>e= .returned (.tuple #[])∧Rdr F W' (.pointer (some ⟨o,0,none⟩)) (some vb) T.2.1 T.2.2∧Box W' ab 80 #[.bool is,.int .u64 (T.1:Int),.string ⟨#[]⟩,.int .u32 0,.string ⟨#[]⟩,.string ⟨#[]⟩,.slice none 0 0,.int .u8 0,.int .u64 0,.string ⟨#[]⟩,.slice none 0 0,.slice none 0 0]∧KP B ab vb W W':=by
 have qq6i:=();exact Z11_
theorem zcA(is:Bool)(T:_)(hT:T=mnum l false 2)(hr:Rdr F W (.pointer (some ⟨o,0,none⟩)) (some vb) l false)(Bm:Box W cb 198 #[.pointer (some ⟨ab,0,none⟩)])(ha:Box W ab 80 #[.bool is,.int .u64 0,.string ⟨#[]⟩,.int .u32 0,.string ⟨#[]⟩,.string ⟨#[]⟩,.slice none 0 0,.int .u8 0,.int .u64 0,.string ⟨#[]⟩,.slice none 0 0,.slice none 0 0])(iG:¬F ab)(N3:vb≠cb)(DD:vb≠ab)(NT:cb≠ab)(hBa:B≤ab)(pi:B≤vb)(ew:B≤W.heap.size):
  Calls prog 154 #[.pointer (some ⟨o,0,none⟩),.pointer (some ⟨cb,0,none⟩)] W fun e W'=>e= .returned (.tuple #[])∧Rdr F W' (.pointer (some ⟨o,0,none⟩)) (some vb) T.2.1 T.2.2∧Box W' ab 80 #[.bool is,.int .u64 (T.1:Int),.string ⟨#[]⟩,.int .u32 0,.string ⟨#[]⟩,.string ⟨#[]⟩,.slice none 0 0,.int .u8 0,.int .u64 0,.string ⟨#[]⟩,.slice none 0 0,.slice none 0 0]∧KP B ab vb W W':=by
 have qq6j:=();exact Z11_
theorem zcB(is:Bool)(T:_)(hT:T=mnum l false 4)(hr:Rdr F W (.pointer (some ⟨o,0,none⟩)) (some vb) l false)(Bm:Box W cb 198 #[.pointer (some ⟨ab,0,none⟩)])(ha:Box W ab 80 #[.bool is,.int .u64 0,.string ⟨#[]⟩,.int .u32 0,.string ⟨#[]⟩,.string ⟨#[]⟩,.slice none 0 0,.int .u8 0,.int .u64 0,.string ⟨#[]⟩,.slice none 0 0,.slice none 0 0])(iG:¬F ab)(N3:vb≠cb)(DD:vb≠ab)(NT:cb≠ab)(hBa:B≤ab)(pi:B≤vb)(ew:B≤W.heap.size):
  Calls prog 155 #[.pointer (some ⟨o,0,none⟩),.pointer (some ⟨cb,0,none⟩)] W fun e W'=>e= .returned (.tuple #[])∧Rdr F W' (.pointer (some ⟨o,0,none⟩)) (some vb) T.2.1 T.2.2∧Box W' ab 80 #[.bool is,.int .u64 (T.1:Int),.string ⟨#[]⟩,.int .u32 0,.string ⟨#[]⟩,.string ⟨#[]⟩,.slice none 0 0,.int .u8 0,.int .u64 0,.string ⟨#[]⟩,.slice none 0 0,.slice none 0 0]∧KP B ab vb W W':=by
 have qq6k:=();exact Z11_
theorem zbl(is:Bool)(T:_)(hT:T=zT l false 1 255)(hr:Rdr F W (.pointer (some ⟨o,0,none⟩)) (some vb) l false)(Bm:Box W cb 198 #[.pointer (some ⟨ab,0,none⟩)])(ha:Box W ab 80 #[.bool is,.int .u64 0,.string ⟨#[]⟩,.int .u32 0,.string ⟨#[]⟩,.string ⟨#[]⟩,.slice none 0 0,.int .u8 0,.int .u64 0,.string ⟨#[]⟩,.slice none 0 0,.slice none 0 0])(iG:¬F ab)(N3:vb≠cb)(DD:vb≠ab)(NT:cb≠ab)(hBa:B≤ab)(pi:B≤vb)(ew:B≤W.heap.size):
  Calls prog 156 #[.pointer (some ⟨o,0,none⟩),.pointer (some ⟨cb,0,none⟩)] W fun e W'=>e= .returned (.tuple #[])∧Rdr F W' (.pointer (some ⟨o,0,none⟩)) (some vb) T.2.1 T.2.2∧Box W' ab 80 #[.bool is,.int .u64 0,.string (str T.1),.int .u32 0,.string ⟨#[]⟩,.string ⟨#[]⟩,.slice none 0 0,.int .u8 0,.int .u64 0,.string ⟨#[]⟩,.slice none 0 0,.slice none 0 0]∧KP B ab vb W W':=by
 have qq6h:=();exact Z11_
theorem zcC(is:Bool)(T:_)(hT:T=zT l false 2 65535)(hr:Rdr F W (.pointer (some ⟨o,0,none⟩)) (some vb) l false)(Bm:Box W cb 198 #[.pointer (some ⟨ab,0,none⟩)])(ha:Box W ab 80 #[.bool is,.int .u64 0,.string ⟨#[]⟩,.int .u32 0,.string ⟨#[]⟩,.string ⟨#[]⟩,.slice none 0 0,.int .u8 0,.int .u64 0,.string ⟨#[]⟩,.slice none 0 0,.slice none 0 0])(iG:¬F ab)(N3:vb≠cb)(DD:vb≠ab)(NT:cb≠ab)(hBa:B≤ab)(pi:B≤vb)(ew:B≤W.heap.size):
  Calls prog 158 #[.pointer (some ⟨o,0,none⟩),.pointer (some ⟨cb,0,none⟩)] W fun e W'=>e= .returned (.tuple #[])∧Rdr F W' (.pointer (some ⟨o,0,none⟩)) (some vb) T.2.1 T.2.2∧Box W' ab 80 #[.bool is,.int .u64 0,.string (str T.1),.int .u32 0,.string ⟨#[]⟩,.string ⟨#[]⟩,.slice none 0 0,.int .u8 0,.int .u64 0,.string ⟨#[]⟩,.slice none 0 0,.slice none 0 0]∧KP B ab vb W W':=by
 exact Z11_
theorem OctR.from{w1:World}{cells:Array Value}(h:OctR w1 B rb ab l bad cells e w')(hK:KP B rb ab w w1):OctR w B rb ab l bad cells e w':=⟨h.1,h.2.1,h.2.2.1,hK.trans h.2.2.2⟩
theorem zbh(is:Bool)(h:MRd w B rb l bad)(hB:B≤rb)(ha:Box w ab 80 #[.bool is,.int .u64 0,.string ⟨#[]⟩,.int .u32 0,.string ⟨#[]⟩,.string ⟨#[]⟩,.slice none 0 0,.int .u8 0,.int .u64 0,.string ⟨#[]⟩,.slice none 0 0,.slice none 0 0])(Bo:B≤ab)(hne:ab≠rb)(T:_)(hT:T=mnum l false 1)(Ch:T.2.1.length≤l.length):
  Calls prog 128 #[.pointer (some ⟨rb,0,none⟩),.pointer (some ⟨ab,0,none⟩)] w (OctR w B rb ab (if(bad||T.2.2)=true then l else l.drop (l.length-T.2.1.length)) (bad||T.2.2) #[.bool is,.int .u64 (T.1:Int),.string ⟨#[]⟩,.int .u32 0,.string ⟨#[]⟩,.string ⟨#[]⟩,.slice none 0 0,.int .u8 0,.int .u64 0,.string ⟨#[]⟩,.slice none 0 0,.slice none 0 0]):=by
 exact Z1m_
theorem zbi(is:Bool)(h:MRd w B rb l bad)(hB:B≤rb)(ha:Box w ab 80 #[.bool is,.int .u64 0,.string ⟨#[]⟩,.int .u32 0,.string ⟨#[]⟩,.string ⟨#[]⟩,.slice none 0 0,.int .u8 0,.int .u64 0,.string ⟨#[]⟩,.slice none 0 0,.slice none 0 0])(Bo:B≤ab)(hne:ab≠rb)(T:_)(hT:T=mnum l false 2)(Ch:T.2.1.length≤l.length):
  Calls prog 129 #[.pointer (some ⟨rb,0,none⟩),.pointer (some ⟨ab,0,none⟩)] w (OctR w B rb ab (if(bad||T.2.2)=true then l else l.drop (l.length-T.2.1.length)) (bad||T.2.2) #[.bool is,.int .u64 (T.1:Int),.string ⟨#[]⟩,.int .u32 0,.string ⟨#[]⟩,.string ⟨#[]⟩,.slice none 0 0,.int .u8 0,.int .u64 0,.string ⟨#[]⟩,.slice none 0 0,.slice none 0 0]):=by
 have qq8m:=();exact Z1m_
theorem zbj(is:Bool)(h:MRd w B rb l bad)(hB:B≤rb)(ha:Box w ab 80 #[.bool is,.int .u64 0,.string ⟨#[]⟩,.int .u32 0,.string ⟨#[]⟩,.string ⟨#[]⟩,.slice none 0 0,.int .u8 0,.int .u64 0,.string ⟨#[]⟩,.slice none 0 0,.slice none 0 0])(Bo:B≤ab)(hne:ab≠rb)(T:_)(hT:T=mnum l false 4)(Ch:T.2.1.length≤l.length):
  Calls prog 130 #[.pointer (some ⟨rb,0,none⟩),.pointer (some ⟨ab,0,none⟩)] w (OctR w B rb ab (if(bad||T.2.2)=true then l else l.drop (l.length-T.2.1.length)) (bad||T.2.2) #[.bool is,.int .u64 (T.1:Int),.string ⟨#[]⟩,.int .u32 0,.string ⟨#[]⟩,.string ⟨#[]⟩,.slice none 0 0,.int .u8 0,.int .u64 0,.string ⟨#[]⟩,.slice none 0 0,.slice none 0 0]):=by
 have qq8n:=();exact Z1m_
theorem Vz(is:Bool)(h:MRd w B rb l bad)(hB:B≤rb)(ha:Box w ab 80 #[.bool is,.int .u64 0,.string ⟨#[]⟩,.int .u32 0,.string ⟨#[]⟩,.string ⟨#[]⟩,.slice none 0 0,.int .u8 0,.int .u64 0,.string ⟨#[]⟩,.slice none 0 0,.slice none 0 0])(Bo:B≤ab)(hne:ab≠rb)(T:_)(hT:T=zT l false 1 255)(Ch:T.2.1.length≤l.length):
  Calls prog 131 #[.pointer (some ⟨rb,0,none⟩),.pointer (some ⟨ab,0,none⟩)] w (OctR w B rb ab (if(bad||T.2.2)=true then l else l.drop (l.length-T.2.1.length)) (bad||T.2.2) #[.bool is,.int .u64 0,.string (str T.1),.int .u32 0,.string ⟨#[]⟩,.string ⟨#[]⟩,.slice none 0 0,.int .u8 0,.int .u64 0,.string ⟨#[]⟩,.slice none 0 0,.slice none 0 0]):=by
 have qq8o:=();exact Z1m_
theorem zbk(is:Bool)(h:MRd w B rb l bad)(hB:B≤rb)(ha:Box w ab 80 #[.bool is,.int .u64 0,.string ⟨#[]⟩,.int .u32 0,.string ⟨#[]⟩,.string ⟨#[]⟩,.slice none 0 0,.int .u8 0,.int .u64 0,.string ⟨#[]⟩,.slice none 0 0,.slice none 0 0])(Bo:B≤ab)(hne:ab≠rb)(T:_)(hT:T=zT l false 2 65535)(Ch:T.2.1.length≤l.length):
  Calls prog 132 #[.pointer (some ⟨rb,0,none⟩),.pointer (some ⟨ab,0,none⟩)] w (OctR w B rb ab (if(bad||T.2.2)=true then l else l.drop (l.length-T.2.1.length)) (bad||T.2.2) #[.bool is,.int .u64 0,.string (str T.1),.int .u32 0,.string ⟨#[]⟩,.string ⟨#[]⟩,.slice none 0 0,.int .u8 0,.int .u64 0,.string ⟨#[]⟩,.slice none 0 0,.slice none 0 0]):=by
 have qq8p:=();exact Z1m_
theorem zcy{cells:Array Value}(h:MRd w B rb l bad)(ha:Box w ab 80 cells):
  Calls prog 127 #[.pointer (some ⟨rb,0,none⟩),.pointer (some ⟨ab,0,none⟩)] w (OctR w B rb ab l bad cells):=by
 go_enter func127,ntmps127;go_wp2_with(with_reducible refine h_A ?_);go_end0;exact⟨rfl,ha,h,KP.refl _ _ _ _⟩
theorem Jd(l:List UInt8):(getR l).2.1≤l.length:=by
 unfold getR;split
 ·exact KL _
 split
 ·exact Nat.sub_le _ _
 exact KL _
theorem zbe(l:List UInt8):(vget l).2.1≤l.length:=by
 unfold vget;split
 ·split
  ·exact Nat.sub_le _ _
  exact KL _
 exact KL _
theorem zbf(l:List UInt8):(vget l).2.2=0∨(vget l).2.2=5:=by
 unfold vget;split
 ·split
  ·exact .inl rfl
  exact .inr rfl
 exact .inr rfl
theorem Vw(is:Bool)(h:MRd w B rb l bad)(hB:B≤rb)(ha:Box w ab 80 #[.bool is,.int .u64 0,.string ⟨#[]⟩,.int .u32 0,.string ⟨#[]⟩,.string ⟨#[]⟩,.slice none 0 0,.int .u8 0,.int .u64 0,.string ⟨#[]⟩,.slice none 0 0,.slice none 0 0])(Bo:B≤ab)(hne:ab≠rb)(hT:UTabs w)(x:Vl)(n:Nat)(er:Int)(hg:vget l=(x,n,er)):
  Calls prog 135 #[.pointer (some ⟨rb,0,none⟩),.pointer (some ⟨ab,0,none⟩)] w fun e w'=>∃h1:VH,OctR w B rb ab (if(bad||decide (er≠0))=true then l else l.drop n) (bad||decide (er≠0)) #[.bool is,.int .u64 0,.string ⟨#[]⟩,.int .u32 0,.string ⟨#[]⟩,.string ⟨#[]⟩,.slice none 0 0,.int .u8 (x.kind:Int),.int .u64 (x.n:Int),.string (str x.s),.slice h1.A1 x.keys.length h1.c1,.slice h1.A2 x.list.length h1.c2] e w'∧RV w' (FN w.heap.size w') x h1:=by
 exact Zl_
theorem zbg(is:Bool)(h:MRd w B rb l bad)(hB:B≤rb)(ha:Box w ab 80 #[.bool is,.int .u64 0,.string ⟨#[]⟩,.int .u32 0,.string ⟨#[]⟩,.string ⟨#[]⟩,.slice none 0 0,.int .u8 0,.int .u64 0,.string ⟨#[]⟩,.slice none 0 0,.slice none 0 0])(Bo:B≤ab)(hne:ab≠rb)(x:Xd)(n er:Nat)(hg:getR l=(x,n,er)):
  Calls prog 133 #[.pointer (some ⟨rb,0,none⟩),.pointer (some ⟨ab,0,none⟩)] w fun e w'=>OctR w B rb ab (if(bad||decide (er≠0))=true then l else l.drop n) (bad||decide (er≠0)) #[.bool is,.int .u64 0,.string ⟨#[]⟩,.int .u32 (x.fmt:Int),.string (str x.glob),.string (str x.bran),.slice none 0 0,.int .u8 0,.int .u64 0,.string ⟨#[]⟩,.slice none 0 0,.slice none 0 0] e w':=by
 have qq3e:=();exact Zl_
theorem Yn(b:List UInt8):qu b≤b.length:=by
 unfold qu;split
 ·rename_i h
  unfold zO at h;split at h
  ·omega
  split at h
  ·omega
  split at h
  ·omega
  omega
 exact KL _
theorem zcx(is:Bool)(h:MRd w B rb l bad)(hB:B≤rb)(ha:Box w ab 80 #[.bool is,.int .u64 0,.string ⟨#[]⟩,.int .u32 0,.string ⟨#[]⟩,.string ⟨#[]⟩,.slice none 0 0,.int .u8 0,.int .u64 0,.string ⟨#[]⟩,.slice none 0 0,.slice none 0 0])(Bo:B≤ab)(hne:ab≠rb):
  Calls prog 134 #[.pointer (some ⟨rb,0,none⟩),.pointer (some ⟨ab,0,none⟩)] w fun e w'=>∃A2 c2,OctR w B rb ab (if(bad||decide (zO l≠0))=true then l else l.drop (qu l)) (bad||decide (zO l≠0)) #[.bool is,.int .u64 0,.string ⟨#[]⟩,.int .u32 0,.string ⟨#[]⟩,.string ⟨#[]⟩,.slice A2 (xN l).length c2,.int .u8 0,.int .u64 0,.string ⟨#[]⟩,.slice none 0 0,.slice none 0 0] e w'∧OwnS w' w.heap.size A2 (xN l).length c2 (xN l):=by
 have qq3f:=();exact Zl_
def XD(w:World)(B rb ab:Nat)(kd:UInt8)(is:Bool)(l:List UInt8)(bad:Bool)(e:Ending)(w':World):Prop:=∃(a:Ag) (h:AH) (l':List UInt8) (bad':Bool),e= .returned (.tuple #[])∧Box w' ab 80 (agV a h)∧RA w' (FN w.heap.size w') a h∧MRd w' B rb l' bad'∧KP B rb ab w w'∧a.is=is∧
 ∀(a':Ag) (rest:List UInt8),bad=false→l=byA kd a'++rest→okA kd a'=true→AB a'→a'.is=is→a=a'∧l'=rest∧bad'=false
theorem Vs(X rest:List UInt8):(X++rest).drop ((X++rest).length-rest.length)=rest:=by
 rw[K0,Nat.add_sub_cancel,q7]
theorem Qv(kd:UInt8)(k:Nat)(hk:k=1∨k=2∨k=4)(dT:∀a,byA kd a=be k a.n)(bJ:∀a,okA kd a=true→a.n<256 ^ k∧zy a (agN a)=true)
  (h:OctR w B rb ab (if(bad||(mnum l false (k:Int)).2.2)=true then l else l.drop (l.length-(mnum l false (k:Int)).2.1.length)) (bad||(mnum l false (k:Int)).2.2) #[.bool is,.int .u64 ((mnum l false (k:Int)).1:Int),.string ⟨#[]⟩,.int .u32 0,.string ⟨#[]⟩,.string ⟨#[]⟩,.slice none 0 0,.int .u8 0,.int .u64 0,.string ⟨#[]⟩,.slice none 0 0,.slice none 0 0] e w'):XD w B rb ab kd is l bad e w':=by
 obtain⟨rfl,hb,hm,hK⟩:=h;refine⟨⟨is,(mnum l false (k:Int)).1,[],xd0,[],vl0⟩,ah0,_,_,rfl,hb,?_,hm,hK,rfl,?_⟩
 ·have hz:=RA.zero w' (FN w.heap.size w') is;exact⟨xg l false k,hz.s,hz.x,hz.q,hz.ok,hz.c,hz.v⟩
 intro a' rest d7 hl l7 _ BR;obtain⟨h1,h2⟩:=bJ a' l7;rw[dT]at hl;have e1:=qX k Wq a'.n h1 rest;subst hl d7;rw[e1];have e2:a'=agN a':=(zL _ _).1 h2;have e3:a'.is=true:=by rw[e2];rfl
 refine⟨?_,by simp,rfl⟩;rw[e2];simp only[agN];rw[←BR,e3]
theorem Vt(kd:UInt8)(k:Nat)(hk:k=1∨k=2)(most:Nat)(Ry:256 ^ k≤most+1)(m4:most≤65535)(dT:∀a,byA kd a=zP [] a.s (k:Int))(bJ:∀a,okA kd a=true→zE a.s.length (k:Int)=0∧zy a (agS a)=true)
  (h:OctR w B rb ab (if(bad||(zT l false (k:Int) (most:Int)).2.2)=true then l else l.drop (l.length-(zT l false (k:Int) (most:Int)).2.1.length)) (bad||(zT l false (k:Int) (most:Int)).2.2) #[.bool is,.int .u64 0,.string (str (zT l false (k:Int) (most:Int)).1),.int .u32 0,.string ⟨#[]⟩,.string ⟨#[]⟩,.slice none 0 0,.int .u8 0,.int .u64 0,.string ⟨#[]⟩,.slice none 0 0,.slice none 0 0] e w'):XD w B rb ab kd is l bad e w':=by
 obtain⟨rfl,hb,hm,hK⟩:=h;refine⟨⟨is,0,(zT l false (k:Int) (most:Int)).1,xd0,[],vl0⟩,ah0,_,_,rfl,hb,?_,hm,hK,rfl,?_⟩
 ·have hz:=RA.zero w' (FN w.heap.size w') is;exact⟨hz.n,by have:=yY l false k most;show(zT l false (k:Int) (most:Int)).1.length≤_;omega,hz.x,hz.q,hz.ok,hz.c,hz.v⟩
 intro a' rest d7 hl l7 _ BR;obtain⟨h1,h2⟩:=bJ a' l7;obtain⟨h3,h4⟩:=vK hk h1;rw[dT,h4]at hl;have e1:=jt k Wq a'.s rest most h3 Wq;subst hl d7;rw[e1];have e2:a'=agS a':=(zL _ _).1 h2;have e3:a'.is=true:=by rw[e2];rfl
 refine⟨?_,(by rw[if_neg Wz];exact Vs _ _),rfl⟩;rw[e2];simp only[agS];rw[←BR,e3]
theorem zcw(h:OctR w B rb ab l bad #[.bool is,.int .u64 0,.string ⟨#[]⟩,.int .u32 0,.string ⟨#[]⟩,.string ⟨#[]⟩,.slice none 0 0,.int .u8 0,.int .u64 0,.string ⟨#[]⟩,.slice none 0 0,.slice none 0 0] e w'):XD w B rb ab 98 is l bad e w':=by
 obtain⟨rfl,hb,hm,hK⟩:=h;refine⟨ag0 is,ah0,_,_,rfl,hb,RA.zero _ _ _,hm,hK,rfl,?_⟩;intro a' rest d7 hl l7 _ BR;have h2:zy a' (ag0 a'.is)=true:=l7;have e2:a'=ag0 a'.is:=(zL _ _).1 h2;refine⟨by rw[e2,←BR],?_,d7⟩;rw[hl];rfl
theorem Vu(x:Vl)(n:Nat)(er:Int)(hg:vget l=(x,n,er))(h1:VH)
  (h:OctR w B rb ab (if(bad||decide (er≠0))=true then l else l.drop n) (bad||decide (er≠0)) #[.bool is,.int .u64 0,.string ⟨#[]⟩,.int .u32 0,.string ⟨#[]⟩,.string ⟨#[]⟩,.slice none 0 0,.int .u8 (x.kind:Int),.int .u64 (x.n:Int),.string (str x.s),.slice h1.A1 x.keys.length h1.c1,.slice h1.A2 x.list.length h1.c2] e w') (hv:RV w' (FN w.heap.size w') x h1):XD w B rb ab 118 is l bad e w':=by
 obtain⟨rfl,hb,hm,hK⟩:=h;refine⟨⟨is,0,[],xd0,[],x⟩,⟨none,0,h1⟩,_,_,rfl,hb,?_,hm,hK,rfl,?_⟩
 ·have hz:=RA.zero w' (FN w.heap.size w') is;exact⟨hz.n,hz.s,hz.x,hz.q,hz.ok,hz.c,hv⟩
 have qqbg:=();exact Z2f_
theorem Vv(l:List UInt8):(getR l).1.wf:=by
 have h0:xd00.wf:=⟨by decide,by decide,by decide⟩;unfold getR;split
 ·exact h0
 split
 ·refine⟨Nat.mod_lt _ WJ,?_,?_⟩
  ·have:=yY (mnum l false 4).2.1 (mnum l false 4).2.2 1 255;exact Vx this WJ
  have:=yY (getT (mnum l false 4).2.1 (mnum l false 4).2.2).2.1 (getT (mnum l false 4).2.1 (mnum l false 4).2.2).2.2 1 255;exact Vx this WJ
 exact h0
theorem zbd(x:Xd)(n er:Nat)(hg:getR l=(x,n,er))
  (h:OctR w B rb ab (if(bad||decide (er≠0))=true then l else l.drop n) (bad||decide (er≠0)) #[.bool is,.int .u64 0,.string ⟨#[]⟩,.int .u32 (x.fmt:Int),.string (str x.glob),.string (str x.bran),.slice none 0 0,.int .u8 0,.int .u64 0,.string ⟨#[]⟩,.slice none 0 0,.slice none 0 0] e w'):XD w B rb ab 120 is l bad e w':=by
 obtain⟨rfl,hb,hm,hK⟩:=h;have gG:=Vv l;rw[hg]at gG;refine⟨⟨is,0,[],x,[],vl0⟩,ah0,_,_,rfl,hb,?_,hm,hK,rfl,?_⟩
 ·have hz:=RA.zero w' (FN w.heap.size w') is;exact⟨hz.n,hz.s,gG,hz.q,hz.ok,hz.c,hz.v⟩
 exact Z2f_
theorem XC(b:List UInt8):spOK 4294967296 (xN b):=by
 unfold xN;split
 ·exact kM _ _
 intro z hz;cases hz
theorem zcv(A2:Option Addr)(c2:Nat)
  (h:OctR w B rb ab (if(bad||decide (zO l≠0))=true then l else l.drop (qu l)) (bad||decide (zO l≠0)) #[.bool is,.int .u64 0,.string ⟨#[]⟩,.int .u32 0,.string ⟨#[]⟩,.string ⟨#[]⟩,.slice A2 (xN l).length c2,.int .u8 0,.int .u64 0,.string ⟨#[]⟩,.slice none 0 0,.slice none 0 0] e w') (ho:OwnS w' w.heap.size A2 (xN l).length c2 (xN l)) (bQ:(xN l).length≤140737488351232):XD w B rb ab 114 is l bad e w':=by
 obtain⟨rfl,hb,hm,hK⟩:=h;refine⟨⟨is,0,[],xd0,xN l,vl0⟩,⟨A2,c2,⟨none,0,none,0⟩⟩,_,_,rfl,hb,?_,hm,hK,rfl,?_⟩
 ·have hz:=RA.zero w' (FN w.heap.size w') is;refine⟨hz.n,hz.s,hz.x,RdX.of_own ho (fun g hg=>?_),XC l,bQ,hz.v⟩;have:=ho.blk_lt hg;exact⟨this.1,this.2⟩
 intro a' rest d7 hl l7 Bo BR;have h2:(decide (((ye a'.q:Nat):Int)=0)&&zy a' (agQ a'))=true:=l7;rw[Bool.and_eq_true,decide_eq_true_eq]at h2;obtain⟨h3,h4⟩:=h2;have e2:a'=agQ a':=(zL _ _).1 h4;have e3:a'.is=true:=by rw[e2];rfl
 have iV:l=yL a'.q++rest:=hl
 have ik:zV a'.q=true∧a'.q.length≤1000:=by
  exact Z5t_
 obtain⟨g1,g2,g3⟩:=Qy rest ik.1 ik.2 Bo.q;rw[←iV]at g1 g2 g3;subst d7;rw[g1,g2,g3];refine⟨?_,?_,rfl⟩
 ·rw[e2];simp only[agQ];rw[←BR,e3]
 rw[if_neg Wz,iV,q7]
def rdFn(kd:UInt8):FuncId:=
 if kd=98 then 127 else if kd=110 then 128 else if kd=119 then 129 else if kd=100 then 130
 else if kd=115 then 131 else if kd=116 then 132 else if kd=120 then 133 else if kd=114 then 134 else 135
theorem Ym{a:Ag}(h:(decide (a.n<k)&&zy a (agN a))=true):a.n<k∧zy a (agN a)=true:=by
 rw[Bool.and_eq_true,decide_eq_true_eq]at h;exact h
theorem Jc{a:Ag}{k:Int}(h:(decide (zE a.s.length k=0)&&zy a (agS a))=true):zE a.s.length k=0∧zy a (agS a)=true:=by
 rw[Bool.and_eq_true,decide_eq_true_eq]at h;exact h
theorem zcu(kd:UInt8)(hk:kd∈jX)(is:Bool)(h:MRd w B rb l bad)(hB:B≤rb)(ha:Box w ab 80 #[.bool is,.int .u64 0,.string ⟨#[]⟩,.int .u32 0,.string ⟨#[]⟩,.string ⟨#[]⟩,.slice none 0 0,.int .u8 0,.int .u64 0,.string ⟨#[]⟩,.slice none 0 0,.slice none 0 0])(Bo:B≤ab)(hne:ab≠rb)(hT:UTabs w):
  Calls prog (rdFn kd) #[.pointer (some ⟨rb,0,none⟩),.pointer (some ⟨ab,0,none⟩)] w (XD w B rb ab kd is l bad):=by
 unfold jX at hk;simp only[K1,Wb,or_false]at hk;rcases hk with rfl|rfl|rfl|rfl|rfl|rfl|rfl|rfl|rfl
 ·exact(zcy h ha).mono fun e w' hh=>zcw hh
 ·exact(zbh is h hB ha Bo hne _ rfl (xM _ _ _)).mono fun e w' hh=>Qv 110 1 (.inl rfl) (fun a=>rfl) (fun a h=>Ym h) hh
 ·exact(zbi is h hB ha Bo hne _ rfl (xM _ _ _)).mono fun e w' hh=>Qv 119 2 (.inr (.inl rfl)) (fun a=>rfl) (fun a h=>Ym h) hh
 ·exact(zbj is h hB ha Bo hne _ rfl (xM _ _ _)).mono fun e w' hh=>Qv 100 4 (.inr (.inr rfl)) (fun a=>rfl) (fun a h=>Ym h) hh
 ·exact(Vz is h hB ha Bo hne _ rfl (qW _ _ _ _)).mono fun e w' hh=>Vt 115 1 (.inl rfl) 255 WJ WJ (fun a=>rfl) (fun a h=>Jc h) hh
 ·exact(zbk is h hB ha Bo hne _ rfl (qW _ _ _ _)).mono fun e w' hh=>Vt 116 2 (.inr rfl) 65535 WJ WJ (fun a=>rfl) (fun a h=>Jc h) hh
 ·exact(zbg is h hB ha Bo hne (getR l).1 (getR l).2.1 (getR l).2.2 rfl).mono fun e w' hh=>zbd _ _ _ rfl hh
 ·exact(zcx is h hB ha Bo hne).mono fun e w' ⟨A2,c2,hh,ho⟩=>zcv A2 c2 hh ho (by
   unfold xN;split
   ·rw[ji];have hN:getN l<65536:=xY;omega
   ·simp)
 exact(Vw is h hB ha Bo hne hT (vget l).1 (vget l).2.1 (vget l).2.2 rfl).mono fun e w' ⟨h1,hh,hv⟩=>Vu _ _ _ rfl h1 hh hv
theorem Qu(w:World):Calls prog 109 #[] w fun e w'=>∃mb,e= .returned (.map (some mb))∧Below w.heap.size w w'∧w.heap.size≤mb∧mb<w'.heap.size∧∀W:World,W.heap[mb]?=w'.heap[mb]?→∀kd∈jX,(Instr.lookup 195 (.map (some mb)) (.int .u8 (kd.toNat:Int)) false).run prog W= .ok (.func (.func (rdFn kd)) #[] #[]) W:=by
 have nE:=fun W=>run_makeMap (P:=prog) 195 W
 have Hp:=World.ownsMap_made w prog 5 rawV;have hB:=(Below.refl w.heap.size w).alloc (Q2 _) (.map #[] 0);go_enter func109,ntmps109;go_wp2_with(with_reducible refine h_M ?_);obtain⟨mb,cw⟩:∃m,m=w.heap.size:=⟨_,rfl⟩
 rw[←cw]at Hp ⊢;have NK:w.heap.size≤mb:=by omega
 clear cw nE;generalize(w.alloc (.map #[] 0))=v1 at*;refine zc (zm (H:=Value) _ rfl _ _ _ 195 rfl 5 197 zC underlying195 rawV _ _ _ rfl Hp WX _ _ (.int .u8 98) rfl rfl (Maps.keyOf_int_mk underlying5 WJ) _ [] rfl ?_);intro v2 Hr bM;have Hc:=hB.grown bM hB.size Wx;clear Hp bM hB;have Hp:=Hr;have hB:=Hc;clear Hr Hc;generalize v2=v1 at*;go_wp2_with(with_reducible refine h_M ?_);refine zc (zm (H:=Value) _ rfl _ _ _ 195 rfl 5 197 zC underlying195 rawV _ _ _ rfl Hp WX _ _ (.int .u8 110) rfl rfl (Maps.keyOf_int_mk underlying5 WJ) _ [] rfl ?_);intro v2 Hr bM;have Hc:=hB.grown bM hB.size Wx;clear Hp bM hB;have Hp:=Hr;have hB:=Hc;clear Hr Hc;generalize v2=v1 at*;go_wp2_with(with_reducible refine h_M ?_);refine zc (zm (H:=Value) _ rfl _ _ _ 195 rfl 5 197 zC underlying195 rawV _ _ _ rfl Hp WX _ _ (.int .u8 119) rfl rfl (Maps.keyOf_int_mk underlying5 WJ) _ [] rfl ?_);intro v2 Hr bM;have Hc:=hB.grown bM hB.size Wx;clear Hp bM hB;have Hp:=Hr;have hB:=Hc;clear Hr Hc;generalize v2=v1 at*;go_wp2_with(with_reducible refine h_M ?_);refine zc (zm (H:=Value) _ rfl _ _ _ 195 rfl 5 197 zC underlying195 rawV _ _ _ rfl Hp WX _ _ (.int .u8 100) rfl rfl (Maps.keyOf_int_mk underlying5 WJ) _ [] rfl ?_);intro v2 Hr bM;have Hc:=hB.grown bM hB.size Wx;clear Hp bM hB;have Hp:=Hr;have hB:=Hc;clear Hr Hc;generalize v2=v1 at*;go_wp2_with(with_reducible refine h_M ?_);refine zc (zm (H:=Value) _ rfl _ _ _ 195 rfl 5 197 zC underlying195 rawV _ _ _ rfl Hp WX _ _ (.int .u8 115) rfl rfl (Maps.keyOf_int_mk underlying5 WJ) _ [] rfl ?_);intro v2 Hr bM;have Hc:=hB.grown bM hB.size Wx;clear Hp bM hB;have Hp:=Hr;have hB:=Hc;clear Hr Hc;generalize v2=v1 at*;go_wp2_with(with_reducible refine h_M ?_);refine zc (zm (H:=Value) _ rfl _ _ _ 195 rfl 5 197 zC underlying195 rawV _ _ _ rfl Hp WX _ _ (.int .u8 116) rfl rfl (Maps.keyOf_int_mk underlying5 WJ) _ [] rfl ?_);intro v2 Hr bM;have Hc:=hB.grown bM hB.size Wx;clear Hp bM hB;have Hp:=Hr;have hB:=Hc;clear Hr Hc;generalize v2=v1 at*;go_wp2_with(with_reducible refine h_M ?_);refine zc (zm (H:=Value) _ rfl _ _ _ 195 rfl 5 197 zC underlying195 rawV _ _ _ rfl Hp WX _ _ (.int .u8 120) rfl rfl (Maps.keyOf_int_mk underlying5 WJ) _ [] rfl ?_);intro v2 Hr bM;have Hc:=hB.grown bM hB.size Wx;clear Hp bM hB;have Hp:=Hr;have hB:=Hc;clear Hr Hc;generalize v2=v1 at*;go_wp2_with(with_reducible refine h_M ?_);refine zc (zm (H:=Value) _ rfl _ _ _ 195 rfl 5 197 zC underlying195 rawV _ _ _ rfl Hp WX _ _ (.int .u8 114) rfl rfl (Maps.keyOf_int_mk underlying5 WJ) _ [] rfl ?_);intro v2 Hr bM;have Hc:=hB.grown bM hB.size Wx;clear Hp bM hB;have Hp:=Hr;have hB:=Hc;clear Hr Hc;generalize v2=v1 at*;go_wp2_with(with_reducible refine h_M ?_);refine zc (zm (H:=Value) _ rfl _ _ _ 195 rfl 5 197 zC underlying195 rawV _ _ _ rfl Hp WX _ _ (.int .u8 118) rfl rfl (Maps.keyOf_int_mk underlying5 WJ) _ [] rfl ?_);intro v2 Hr bM;have Hc:=hB.grown bM hB.size Wx;clear Hp bM hB;have Hp:=Hr;have hB:=Hc;clear Hr Hc;generalize v2=v1 at*;go_wp2_with(with_reducible refine h_M ?_);go_ret;refine⟨mb,rfl,hB,NK,?_,fun W hW kd hk=>?_⟩
 ·obtain⟨es,clock,hb,_⟩:=Hp;exact(Array.getElem?_eq_some_iff.1 hb).1
 obtain⟨es,clock,hb,F,hx,hy⟩:=Hp;have gK:W.ownsMap prog 5 rawV mb _ _:=⟨es,clock,hW.trans hb,F,hx,hy⟩;unfold jX at hk;simp only[K1,Wb,or_false]at hk;rcases hk with rfl|rfl|rfl|rfl|rfl|rfl|rfl|rfl|rfl
 ·obtain⟨v,ps,bu,hv⟩:=gK.lookup (t:=195) zC underlying195 (z:=.nilFunc) Wj (zd:=.held .nilFunc) (zp:=[]) rfl (key:=.int .u8 98) (kl:=.int .u8 98) (Maps.keyOf_int_mk underlying5 WJ);have h2:=congrArg Prod.fst (Option.some.inj hv);have h3:DataW.held v=DataW.held (.func (.func 127) #[] #[]):=h2.trans Wj;have h4:v= .func (.func 127) #[] #[]:=by injection h3
  rw[h4]at bu;exact bu
 ·obtain⟨v,ps,bu,hv⟩:=gK.lookup (t:=195) zC underlying195 (z:=.nilFunc) Wj (zd:=.held .nilFunc) (zp:=[]) rfl (key:=.int .u8 110) (kl:=.int .u8 110) (Maps.keyOf_int_mk underlying5 WJ);have h2:=congrArg Prod.fst (Option.some.inj hv);have h3:DataW.held v=DataW.held (.func (.func 128) #[] #[]):=h2.trans Wj;have h4:v= .func (.func 128) #[] #[]:=by injection h3
  rw[h4]at bu;exact bu
 ·obtain⟨v,ps,bu,hv⟩:=gK.lookup (t:=195) zC underlying195 (z:=.nilFunc) Wj (zd:=.held .nilFunc) (zp:=[]) rfl (key:=.int .u8 119) (kl:=.int .u8 119) (Maps.keyOf_int_mk underlying5 WJ);have h2:=congrArg Prod.fst (Option.some.inj hv);have h3:DataW.held v=DataW.held (.func (.func 129) #[] #[]):=h2.trans Wj;have h4:v= .func (.func 129) #[] #[]:=by injection h3
  rw[h4]at bu;exact bu
 ·obtain⟨v,ps,bu,hv⟩:=gK.lookup (t:=195) zC underlying195 (z:=.nilFunc) Wj (zd:=.held .nilFunc) (zp:=[]) rfl (key:=.int .u8 100) (kl:=.int .u8 100) (Maps.keyOf_int_mk underlying5 WJ);have h2:=congrArg Prod.fst (Option.some.inj hv);have h3:DataW.held v=DataW.held (.func (.func 130) #[] #[]):=h2.trans Wj;have h4:v= .func (.func 130) #[] #[]:=by injection h3
  rw[h4]at bu;exact bu
 ·obtain⟨v,ps,bu,hv⟩:=gK.lookup (t:=195) zC underlying195 (z:=.nilFunc) Wj (zd:=.held .nilFunc) (zp:=[]) rfl (key:=.int .u8 115) (kl:=.int .u8 115) (Maps.keyOf_int_mk underlying5 WJ);have h2:=congrArg Prod.fst (Option.some.inj hv);have h3:DataW.held v=DataW.held (.func (.func 131) #[] #[]):=h2.trans Wj;have h4:v= .func (.func 131) #[] #[]:=by injection h3
  rw[h4]at bu;exact bu
 ·obtain⟨v,ps,bu,hv⟩:=gK.lookup (t:=195) zC underlying195 (z:=.nilFunc) Wj (zd:=.held .nilFunc) (zp:=[]) rfl (key:=.int .u8 116) (kl:=.int .u8 116) (Maps.keyOf_int_mk underlying5 WJ);have h2:=congrArg Prod.fst (Option.some.inj hv);have h3:DataW.held v=DataW.held (.func (.func 132) #[] #[]):=h2.trans Wj;have h4:v= .func (.func 132) #[] #[]:=by injection h3
  rw[h4]at bu;exact bu
 ·obtain⟨v,ps,bu,hv⟩:=gK.lookup (t:=195) zC underlying195 (z:=.nilFunc) Wj (zd:=.held .nilFunc) (zp:=[]) rfl (key:=.int .u8 120) (kl:=.int .u8 120) (Maps.keyOf_int_mk underlying5 WJ);have h2:=congrArg Prod.fst (Option.some.inj hv);have h3:DataW.held v=DataW.held (.func (.func 133) #[] #[]):=h2.trans Wj;have h4:v= .func (.func 133) #[] #[]:=by injection h3
  rw[h4]at bu;exact bu
 ·obtain⟨v,ps,bu,hv⟩:=gK.lookup (t:=195) zC underlying195 (z:=.nilFunc) Wj (zd:=.held .nilFunc) (zp:=[]) rfl (key:=.int .u8 114) (kl:=.int .u8 114) (Maps.keyOf_int_mk underlying5 WJ);have h2:=congrArg Prod.fst (Option.some.inj hv);have h3:DataW.held v=DataW.held (.func (.func 134) #[] #[]):=h2.trans Wj;have h4:v= .func (.func 134) #[] #[]:=by injection h3
  rw[h4]at bu;exact bu
 obtain⟨v,ps,bu,hv⟩:=gK.lookup (t:=195) zC underlying195 (z:=.nilFunc) Wj (zd:=.held .nilFunc) (zp:=[]) rfl (key:=.int .u8 118) (kl:=.int .u8 118) (Maps.keyOf_int_mk underlying5 WJ);have h2:=congrArg Prod.fst (Option.some.inj hv);have h3:DataW.held v=DataW.held (.func (.func 135) #[] #[]):=h2.trans Wj;have h4:v= .func (.func 135) #[] #[]:=by injection h3
 rw[h4]at bu;exact bu
def zcs(w:World)(b:List UInt8)(e:Ending)(w':World):Prop:=∃(m:Mt) (A:Option Addr) (c:Nat) (er:Int),e= .returned (.tuple #[.agg (mtV m A c),.int .i64 er])∧RM w' (FN w.heap.size w') m A c∧Below w.heap.size w w'∧GetM b m er
theorem RM.zero(w:World)(F:Nat→Prop):RM w F mt0 none 0:=⟨by decide,by decide,⟨[],rfl,RdX.nil _ _ _ _ _ (KL _),fun p hp=>by cases hp⟩,KL _⟩
theorem zba{lr:List UInt8}{fl:Nat}(h:(fl,lr,false)=mnum l false 2):2≤l.length∧lr=l.drop 2:=by
 rw[qE WJ]at h;injection h with _ h
 unfold xe at h;split at h
 ·injection h with _ h;cases h
 rename_i hn
 injection h with h1 _
 refine⟨?_,h1⟩;have:¬((l.length:Int)<2):=fun e=>hn (.inr (.inr e))
 omega
theorem MpS.rm{bs:Nat}{A:Option Addr}{c:Nat}{xs:List (Ag×AH)}(h:MpS w bs A c xs)(hB:B≤bs)(cls code:Nat)(sync:Bool)(hc:cls<256)(hd:code<256)(hl:xs.length≤140737488351232):RM w (FN B w) ⟨cls,code,sync,xs.map (·.1)⟩ A c:=by
 have Ay:∀g,FB bs A w g→FN B w g:=fun g hg=>⟨Vx hB hg.1,hg.2.1⟩
 refine⟨hc,hd,⟨xs,rfl,?_,fun p hp=>(h.el p hp).mono Ay⟩,by simpa using hl⟩;have ho:=h.own;show RdX w (FN B w) 12 A (xs.map (·.1)).length c (rowC agC xs)
 exact Z5e_
end Go.PH
namespace Go.PH
open Go.RowKit Go.Proofs Go.Proofs.Tryz
variable {bad is : Bool} {e : Ending} {l : List UInt8} {B N S cb k o rb vb : Nat} {F : Nat → Prop} {W w w' : World}
theorem RM.ab{m:Mt}{A:Option Addr}{c:Nat}(hm:RM w F m A c):MB m:=by
 refine⟨hm.cls,hm.code,fun x hx=>?_⟩;obtain⟨xs,e,_,h2⟩:=hm.row;rw[←e]at hx;obtain⟨p,hp,rfl⟩:=List.mem_map.1 hx;exact(h2 p hp).ab
theorem zct(fl i:Nat)(h:fl<18446744073709551616):(bits BinOp.and IntKind.u64 ((fl:Int) / 2 ^ i) 1==1)=decide (fl / 2 ^ i % 2=1):=by
 have e:((fl:Int) / 2 ^ i)=((fl / 2 ^ i:Nat):Int):=by rw[Int.natCast_ediv];norm_cast
 have hl:fl / 2 ^ i≤fl:=Nat.div_le_self _ _;rw[e];generalize fl / 2 ^ i=q at*;rw[and_one_u64 _ Wq Wq];by_cases h1:q % 2=1
 ·rw[decide_eq_true h1];simp;omega
 rw[decide_eq_false h1];simp;omega
theorem MRd.grown{row:Option Nat}(h:MRd w B rb l bad)(hB:B≤w.heap.size)(hg:w.grownBy w' row)(hr:∀g,row=some g→B≤g∧g≠rb):MRd w' B rb l bad:=by
 obtain⟨A,n,c,hb,i5,hn⟩:=h;exact⟨A,n,c,hb.grown hg (fun e=>(hr _ e.symm).2 rfl),i5.grown hg hB (fun g hg=>(hr g hg).1),hn⟩
theorem zbb(f:Nat→List UInt8)(h:∀i,(f i).length≤2000000):∀n,((List.range n).flatMap f).length≤2000000*n:=by
 intro n
 induction n with
 | zero=>simp
 | succ n ih=>
  rw[List.range_succ,List.flatMap_append,K0];have:=h n;simp only[List.flatMap_cons,List.flatMap_nil,List.append_nil];omega
theorem Jb(m:Mt):(putM m).length≤6000010:=by
 unfold putM;split
 ·rename_i hg
  have hl:m.args.length≤3:=by
   unfold yI kJ xz at hg;simp only[Bool.and_eq_true,decide_eq_true_eq]at hg;rw[hg.1.1.2];exact(qo _ _).2
  have h1:=zbb (byI m) (fun i=>by
   unfold byI;split
   ·exact ZB _ _
   ·simp) m.args.length
  rw[K0]
  have h2:(kG m.cls m.code m.sync (zF (m.args.map toSA))).length≤6:=by
   unfold kG;split<;>simp[zr]
  omega
 simp
theorem zdC{kd:UInt8}(hk:kd∈jX):∀(args:Array Value) (w:World),(callFunc (rdFn kd) args).run prog w= .ok (.enter (rdFn kd) args) w:=by
 unfold jX at hk;simp only[K1,Wb,or_false]at hk;rcases hk with rfl|rfl|rfl|rfl|rfl|rfl|rfl|rfl|rfl<;>exact fun _ _=>rfl
theorem zbc(A:Option Addr)(n c:Nat)(b:List UInt8)(w:World)(he:MEnv w)(hr:RdB w w.heap.size A n c b)(hn:n≤100000000)
  (B4:∀kd,kd∈yv (ym (b.getD 0 0).toNat (b.getD 1 0).toNat)→∀(W:World) (rb ab:Nat) (l:List UInt8) (bad is:Bool),MRd W w.heap.size rb l bad→w.heap.size≤rb→Box W ab 80 #[.bool is,.int .u64 0,.string ⟨#[]⟩,.int .u32 0,.string ⟨#[]⟩,.string ⟨#[]⟩,.slice none 0 0,.int .u8 0,.int .u64 0,.string ⟨#[]⟩,.slice none 0 0,.slice none 0 0]→w.heap.size≤ab→ab≠rb→Below w.heap.size w W→
   Calls prog (rdFn kd) #[.pointer (some ⟨rb,0,none⟩),.pointer (some ⟨ab,0,none⟩)] W (XD W w.heap.size rb ab kd is l bad))
  (B6:∀(m:Mt) (A:Option Addr) (c:Nat) (W:World),m.cls=(b.getD 0 0).toNat→m.code=(b.getD 1 0).toNat→RMw W m A c→Below w.heap.size w W→Calls prog 50 #[.agg (mtV m A c)] W (MPut W m)):Calls prog 87 #[.slice A n c] w (zcs w b):=by
 have Lz:=Q1 B4;have CI:=Q1 B6;clear B4 B6;obtain⟨zb,w0,bD,bo,hz,Hy⟩:=yR w #[.int .u8 0,.int .u8 0,.bool false,.slice none 0 0] 106;have sX:w.heap.size≤zb:=by omega
 have BC:b.length=n:=RdB.length hr;by_cases h2:n<2
 ·exact Z28_
 have g2:¬(n:Int)<2:=by omega
 have g3:(1:Int)<(n:Int):=by omega
 have g4:(0:Int)<(n:Int):=by omega
 have g5:0<n:=by omega
 have g6:1<n:=by omega
 obtain⟨x,y,r,dh⟩:∃x y r,b=x::y::r:=by
  match b,BC with
  | [],h=>simp at h;omega
  | [_],h=>simp at h;omega
  | x::y::r,_=>exact⟨x,y,r,rfl⟩
 obtain⟨g,off,hA,CQ,ez⟩:=hr.at_ Wq;subst hA
 have FJ:∀W,Below w.heap.size w W→W.cell? ⟨g,off,none⟩=some (.int .u8 (x.toNat:Int))∧W.cell? ⟨g,off+1,none⟩=some (.int .u8 (y.toNat:Int)):=fun W hW=>
  ⟨(hW.cell (p:=⟨g,off,none⟩) CQ).trans (by have:=ez 0 (u8v x) (by rw[dh];rfl);rw[kT]at this;exact this),(hW.cell (p:=⟨g,off+1,none⟩) CQ).trans (by have:=ez 1 (u8v y) (by rw[dh];rfl);rw[kT]at this;exact this)⟩
 go_enter func87,ntmps87;go_upto_region 3 with fail;rw[←bD,←bo];clear bD bo;refine zt (fun W:World=>Below w.heap.size w W) Wj ?_;have hS:Below w.heap.size w w0.drew:=za Hy 1;replace hz:Box w0.drew zb 106 #[.int .u8 0,.int .u8 0,.bool false,.slice none 0 0]:=hz;generalize w0.drew=wd at*;refine rg_t 0 hS ?_;simp only[q8,q9,Act.put,kI,kv,ky];refine rg_t 1 hS ?_;simp only[g_S];refine ze 2 (v:=?_) rfl Wj Wj Wj hS rfl ?_ ?_;rotate_left
 ·intro wS He;have k0:=(FJ wS He).1;go_simp;(with_reducible rfl)
 simp only[g_S];refine rg_t 3 hS ?_;simp only[g_S];refine rg_t 4 hS ?_;simp only[g_S];refine ze 5 (v:=?_) rfl Wj Wj Wj hS rfl ?_ ?_;rotate_left
 ·intro wS He;have k0:=(FJ wS He).2;go_simp;(with_reducible rfl)
 simp only[g_S];refine rg_t 6 hS ?_;simp only[g_S];refine zj 7 rfl Wj rfl (fun K hK=>?_);obtain⟨mb,w1,bD,bo,hm,gM⟩:=yR wd #[.int .u8 0,.int .u8 0,.bool false,.slice none 0 0] 106;have BG:=hS.trans (gM.mono hS.size);have cy:=hz.below gM;have hmz:zb<mb:=by rw[bD];exact hz.lt
 go_simp;rw[←bD,←bo];clear bD bo gM hz;refine hK _ _ BG ?_;clear hK K;try simp only[g_S]
 refine zj 8 rfl Wj rfl (fun K hK=>?_);refine zK (v:=.agg #[.int .u8 (x.toNat:Int),.int .u8 (y.toNat:Int),.bool false,.slice none 0 0]) (vs:=[.int .u8 (x.toNat:Int),.int .u8 (y.toNat:Int),.bool false,.slice none 0 0]) rfl rfl rfl hm rfl Wj Wz qO #[.int .u8 (x.toNat:Int),.int .u8 (y.toNat:Int),.bool false,.slice none 0 0] Wz ?_;intro w2 dZ Hm _;have BI:=BG.grown Hm BG.size Wx;have ep:=cy.grown Hm (sne Wq);refine hK _ _ BI ?_;clear hK K hS BG cy hm Hm;refine zz Wj ?_;have Hc:=BI;have f8:=Zw x.toNat y.toNat w2 (he.on Hc);have tX:(b.getD 0 0).toNat=x.toNat∧(b.getD 1 0).toNat=y.toNat:=by rw[dh];exact⟨rfl,rfl⟩
 have dB:=Q1 tX;have uF:=Q1 dh;clear tX dh BI;have x0:=dZ.c0;have x1:=dZ.c1
 cases AI:ym x.toNat y.toNat with
 | none=>
  rw[AI]at f8;simp only[yv,Option.map_none,Option.getD_none,Option.isSome_none]at f8;have RU:=Q1 AI;clear AI;go_wp2_with(with_reducible refine h_A ?_);refine f8.mono ?_;rintro e w3 ⟨rfl,Hh⟩;have fR:=ep.below Hh;have Hh:=Hc.trans (Hh.mono Hc.size);clear x0 x1 dZ ep Hc f8;go_wp2_with(with_reducible refine h_B ?_);refine zc (zn (v:=.agg #[.int .u8 0,.int .u8 0,.bool false,.slice none 0 0]) (vs:=[.int .u8 0,.int .u8 0,.bool false,.slice none 0 0]) rfl rfl rfl rfl fR rfl Wj Wz qO #[.int .u8 0,.int .u8 0,.bool false,.slice none 0 0] Wz ?_);intro oq da BY _;have H3:=Hh.grown BY Hh.size Wx;go_wp2_with(with_reducible refine h_A ?_);refine zG rfl da rfl rfl underlying106 rfl Wj rfl ?_
  exact⟨mt0,none,0,80,rfl,RM.zero _ _,H3,.inr (.inl ⟨by omega,by rw[dB.out.1,dB.out.2];exact RU.out,rfl,rfl⟩)⟩
 | some row=>
  rw[AI]at f8;simp only[yv,Option.map_some,Option.getD_some,Option.isSome_some]at f8;obtain⟨bI,fo⟩:=qo x.toNat y.toNat;obtain⟨kd,ee⟩:∃k,k=yv (ym x.toNat y.toNat):=⟨_,rfl⟩
  have NU:row.kinds=kd:=by rw[ee,AI];rfl
  rw[NU]at f8;rw[←ee]at bI fo;have B4:=Lz.out;rw[dB.out.1,dB.out.2,←ee]at B4;have Wr:=Q1 B4;have B6:=CI.out;rw[dB.out.1,dB.out.2]at B6;have R3:=Q1 B6;clear B4 B6 Lz CI;have t3:=Q1 ee;have nS:=Q1 bI;have pV:Hid ((ym x.toNat y.toNat).isSome=true):=Q1 (by rw[AI];rfl);clear AI NU ee bI;obtain⟨cb,Bm⟩:∃q,q=decide (x.toNat≤2):=⟨_,rfl⟩
  have fh:=fun W=>kF x.toNat W
  rw[←Bm]at fh;have pZ:=Q1 Bm;clear Bm;go_wp2_with(with_reducible refine h_A ?_);refine f8.mono ?_;rintro e w3 ⟨rfl,Hh⟩;have np:=dZ.below Hh;have fR:=ep.below Hh;replace Hh:=Hc.trans (Hh.mono Hc.size);clear x0 x1 dZ ep Hc f8;have x0:=np.c0;have x1:=np.c1;go_wp2_with(with_reducible refine h_A ?_);refine(fh _).mono ?_;rintro e w4 ⟨rfl,rfl⟩;clear fh;go_upto_if 41 with fail;clear x0 x1;go_cut [7]from 38 to 51 (fun s7 wx=>∃(at_:Nat) (sync:Bool),s7= .int .i64 (at_:Int)∧Hid (at_=atM x.toNat)∧Hid (sync=kq x.toNat b)∧Box wx mb 106 #[.int .u8 (x.toNat:Int),.int .u8 (y.toNat:Int),.bool sync,.slice none 0 0]∧Box wx zb 106 #[.int .u8 0,.int .u8 0,.bool false,.slice none 0 0]∧Below w.heap.size w wx)
  case first=>
   cases cb
   ·(have od:¬x.toNat≤2:=by have:=pZ.out.symm;simpa using this);have lK:Hid (4=atM x.toNat):=Q1 (by unfold atM;rw[if_neg od]);have HDX:Hid (decide (x.toNat≤2)=false):=Q1 (decide_eq_false od);clear od pZ;by_cases h4:n<4
    ·have qqbc:=();exact Z2d_
    (have g7:(4:Int)≤(n:Int):=by omega);(have g8:(3:Int)<(n:Int):=by omega);(have g9:3<n:=by omega);have bX:b[3]?=some b[3]:=List.getElem?_eq_getElem Wq;have k3:w3.cell? ⟨g,off+3,none⟩=some (.int .u8 (b[3].toNat:Int)):=(Hh.cell (p:=⟨g,off+3,none⟩) CQ).trans (by have:=ez 3 (u8v b[3]) (by rw[List.getElem?_map,bX];rfl);rw[kT]at this;exact this);(have mg:∀q:Bool,decide (b[3]=1)=q→Hid (q=kq x.toNat b):=fun q hq=>Q1 (by unfold kq;rw[HDX.out,bX,←hq];by_cases h1:b[3]=1<;>simp[h1]));generalize b[3]=z at*;clear bX;by_cases cy:z=1
    ·have pM:=mg true (decide_eq_true cy);subst cy;clear mg;have k4:w3.cell? ⟨g,off+3,none⟩=some (.int .u8 1):=k3;clear k3;go_wp2_with(with_reducible refine h_B ?_);refine zc (zn (v:=.bool true) (vs:=[.bool true]) rfl rfl rfl rfl np rfl Wj Wz wX #[.int .u8 (x.toNat:Int),.int .u8 (y.toNat:Int),.bool true,.slice none 0 0] Wz ?_);intro w5 gr H9 _;go_wp2_with(with_reducible refine h_A ?_);go_meet;exact⟨4,true,rfl,lK,pM,gr,fR.grown H9 (sne Wq),Hh.grown H9 Hh.size Wx⟩
    exact Z2d_
   (have od:x.toNat≤2:=by have:=pZ.out.symm;simpa using this);have lK:Hid (2=atM x.toNat):=Q1 (by unfold atM;rw[if_pos od]);have mg:Hid (false=kq x.toNat b):=Q1 (by unfold kq;rw[decide_eq_true od];rfl);clear od pZ;go_wp2_with(with_reducible refine h_A ?_);go_meet;exact⟨2,false,rfl,lK,mg,np,fR,Hh⟩
  clear np fR Hh pZ;obtain⟨at_,sync,rfl,lK,mg,wP,eR,Hn⟩:=hcut;have SF:at_≤4:=by rw[lK.out];unfold atM;split<;>omega
  have pL:min (at_:Int) (n:Int)=((min at_ n:Nat):Int):=by omega
  obtain⟨a2,db⟩:∃q,q=min at_ n:=⟨_,rfl⟩
  rw[←db]at pL;have ay:a2≤n:=by omega
  have Me:Hid (a2=min at_ n):=Q1 db;clear db;have cQ:RdB wc w.heap.size (some ⟨g,off,none⟩) n c b:=hr.below Hn;have fq:=cQ.cap;go_wp2_with(with_reducible refine h_S ?_);refine zc (kD slB rfl rfl rfl cQ a2 n c (.inr ⟨_,_,rfl,rfl⟩) (.inl ⟨rfl,rfl⟩) (.inl ⟨rfl,rfl⟩) mq Wq Wq (Q2 _) (Q2 _) ?_);intro A5 dv _;have e5:((b.map u8v).take (n*1)).drop (a2*1)=(b.drop a2).map u8v:=by rw[KS,KS,K2 Hz,Vy]
  rw[e5]at dv;have cR:=qC A5 (n-a2) (c-a2) (b.drop a2) wc (yS dv Hn.size) Wq;clear e5 dv pL;go_wp2_with(with_reducible refine h_S ?_);refine cR.mono ?_;rintro e w5 ⟨ob,vb,rfl,pO,ig,hR,bw⟩;have gr:=wP.below bw;have fT:=eR.below bw;replace bw:=Hn.trans (bw.mono Hn.size);have hax:=wP.lt;clear cR wP eR Hn cQ;have iz:=yk hR 2 Wq Wq;have ST:=xg (b.drop a2) false 2;obtain⟨q,hq⟩:∃q,q=mnum (b.drop a2) false 2:=⟨_,rfl⟩
  rw[←hq]at iz ST;obtain⟨fl,lr,bd⟩:=q;simp only at iz ST;have HQ:=Q1 hq;clear hq;go_wp2_with(with_reducible refine h_A ?_);refine iz.mono ?_;rintro e w6 ⟨rfl,bE,bz⟩;have tN:=gr.grown bz (sne Wq);have fc:=fT.grown bz (sne Wq);have bG:=bw.grown bz bw.size Wx;clear iz gr fT bw bz hR;try simp only at bE
  have im:=yD bE;go_wp2_with(with_reducible refine h_A ?_);refine im.mono ?_;rintro e w7 ⟨rfl,rfl⟩;clear im bE
  cases bd
  case true=>
   have cJ:Hid (∀m',yI m'=true→MB m'→putM m'≠b):=Q1 (fun m' h1 h2 h3=>by
    obtain⟨_,_,_,q4,q5⟩:=qZ uF.out ⟨h1,h2,h3⟩;rw[←lK.out]at q4 q5;have e:=HQ.out;rw[Me.out,Nat.min_eq_left Wq,q5]at e;(injection e with _ e);injection e with _ e
    cases e)
   go_wp2_with(with_reducible refine h_B ?_);refine zc (zn (v:=.agg #[.int .u8 0,.int .u8 0,.bool false,.slice none 0 0]) (vs:=[.int .u8 0,.int .u8 0,.bool false,.slice none 0 0]) rfl rfl rfl rfl fc rfl Wj Wz qO #[.int .u8 0,.int .u8 0,.bool false,.slice none 0 0] Wz ?_);intro oq da BY _;have H3:=bG.grown BY bG.size Wx;go_wp2_with(with_reducible refine h_A ?_);refine zG rfl da rfl rfl underlying106 rfl Wj rfl ?_;exact⟨mt0,none,0,5,rfl,RM.zero _ _,H3,.inr (.inr ⟨by omega,by rw[dB.out.1,dB.out.2];exact pV.out,.inr ⟨rfl,rfl,cJ.out⟩⟩)⟩
  obtain⟨cN,fp⟩:=zba HQ.out;rw[List.length_drop,BC]at cN;obtain rfl:a2=at_:=by have:=Me.out;omega
  rw[List.drop_drop]at fp;have oT:=Q1 fp;have ib:Hid (mnum (b.drop (atM x.toNat)) false 2=(fl,lr,false)):=Q1 (by rw[←lK.out];exact HQ.out.symm);have Ud:a2+2≤n:=by omega
  have md:RdB w7 w.heap.size (some ⟨g,off,none⟩) n c b:=hr.below bG;clear fp cN HQ Me lK;go_wp2_with(with_reducible refine h_S ?_);refine zc (kD slB rfl rfl rfl md (a2+2) n c (.inr ⟨_,_,rfl,by omega⟩) (.inl ⟨rfl,rfl⟩) (.inl ⟨rfl,rfl⟩) mq Wq Wq (Q2 _) (Q2 _) ?_);intro A8 nL _;have e8:((b.map u8v).take (n*1)).drop ((a2+2)*1)=(b.drop (a2+2)).map u8v:=by rw[KS,KS,K2 Hz,Vy]
  rw[e8,←oT.out]at nL;clear e8 md;go_upto_region 16 with fail;obtain⟨rb,w8,bD,bo,oe,gM⟩:=yR w7 #[.slice A8 (n-(a2+2)) (c-(a2+2)),.bool false] 194;rw[←bD,←bo];have wF:=tN.below gM;have Dw:=fc.below gM;have Bf:=bG.trans (gM.mono bG.size);have RO:=tN.lt;have tH:w.heap.size≤rb:=by rw[bD];exact bG.size
  have pu:mb<rb:=by rw[bD];exact RO
  have BS:MRd w8 w.heap.size rb lr false:=⟨_,_,_,oe,nL.below (gM.mono bG.size),by omega⟩;clear bD bo gM tN fc bG nL oe;go_wp2_with(with_reducible refine h_A ?_);refine(Qu w8).mono ?_;rintro e w9 ⟨pm,rfl,Bl,Pu,No,HM⟩;have TJ:=wF.below Bl;have iJ:=Dw.below Bl;have lV:MRd w9 w.heap.size rb lr false:=BS.kp ((KP.refl w.heap.size mb mb w8).below Bf.size Bl) Wq Wq;replace Bl:=Bf.trans (Bl.mono Bf.size);obtain⟨bs,iT⟩:∃q,q=w9.heap.size:=⟨_,rfl⟩
  have WD:rb<bs:=by obtain⟨_,_,_,hb,_⟩:=lV;rw[iT];exact hb.lt
  have hgv:pm<bs:=by rw[iT];exact No
  have hhn:rb<pm:=by obtain⟨_,_,_,hb,_⟩:=BS;have:=hb.lt;omega
  have Cc:bs≤w9.heap.size:=Nat.le_of_eq iT;have LY:=Q1 HM;clear wF Dw BS Bf HM iT Pu No;have dD:=zi kd;have un:Hid (ReadTo b 0 [] lr false):=Q1 (ReadTo.start uF.out ib.out);have iD:MpS w9 bs none 0 []:=⟨Own.none_ _ _ _ _,fun p hp=>by cases hp⟩;go_wp2_with(with_reducible refine h_A ?_);go_loopw [73] (fun s wr=>∃(i:Nat) (A3:Option Addr) (c3:Nat) (xs:List (Ag×AH)) (l3:List UInt8) (b3:Bool),i≤kd.length∧s= .int .i64 i∧Hid (xs.length=i)∧Hid (ReadTo b i (xs.map (·.1)) l3 b3)∧MpS wr bs A3 c3 xs∧Box wr mb 106 #[.int .u8 (x.toNat:Int),.int .u8 (y.toNat:Int),.bool sync,.slice A3 i c3]∧Box wr zb 106 #[.int .u8 0,.int .u8 0,.bool false,.slice none 0 0]∧MRd wr w.heap.size rb l3 b3∧wr.heap[pm]?=w9.heap[pm]?∧Below w.heap.size w wr∧bs≤wr.heap.size) (fun s _=>kd.length-(RowKit.intOf s).toNat)
  case atStart=>exact⟨0,none,0,[],lr,false,by omega,rfl,Q1 rfl,un,iD,TJ,iJ,lV,rfl,Bl,Cc⟩
  clear iD TJ iJ lV Bl un;obtain⟨i,A3,c3,xs,l3,b3,hi,rfl,tD,CA,hS,hm,hz,hR,Hp,hB,Bw⟩:=hrel;by_cases hlt:i<kd.length
  ·(have g1:(i:Int)<(kd.length:Int):=by omega);(have MI:i<(str kd).size:=by rw[dD];exact hlt);(have g2i:(i:Int)≤3:=by omega);have x3:=hm.c3;go_upto_region 21 with fail;have mO:=zct fl i ST;(obtain⟨is,BR⟩:∃q:Bool,q=decide (fl / 2 ^ i % 2=1):=⟨_,rfl⟩);rw[←BR]at mO;have cF:Hid (∀m,Told b m→∀(h:i<m.args.length),m.args[i].is=is):=Q1 (fun m hm h=>by rw[BR];exact VO uF.out ib.out hm h);simp only[mO];clear mO BR x3;obtain⟨ab,w4,Bo,f9,MO,Hn⟩:=zg wr #[.bool is,.int .u64 0,.string ⟨#[]⟩,.int .u32 0,.string ⟨#[]⟩,.string ⟨#[]⟩,.slice none 0 0,.int .u8 0,.int .u64 0,.string ⟨#[]⟩,.slice none 0 0,.slice none 0 0] 80;rw[←Bo,←f9];have oK:=Hn.size;have hgq:=hm.lt;have hhw:=hz.lt;have wP:=hm.below Hn;have eR:=hz.below Hn;have gh:MRd w4 w.heap.size rb l3 b3:=hR.kp ((KP.refl w.heap.size mb mb wr).below hB.size Hn) Wq Wq;have uL:w4.heap[pm]?=w9.heap[pm]?:=(Hn.block pm Wq).trans Hp;have BF:=hB.trans (Hn.mono hB.size);have pz:=nS.out kd[i] (q3 hlt);have iL:(Instr.lookup 195 (.map (some pm)) (.int .u8 (((str kd)[i]'MI).toNat:Int)) false).run prog w4= .ok (.func (.func (rdFn kd[i])) #[] #[]) w4:=LY.out w4 uL kd[i] pz;have Um:=zdC pz;have pu:=Wr.out kd[i] (q3 hlt) w4 rb ab l3 b3 is gh tH MO (by have:=hB.size;omega) Wq BF;(have T6:∀g,bs≤g→g<wr.heap.size→w4.heap[g]?=wr.heap[g]?:=fun g _ hg=>Hn.block g hg);(have PL:wr.heap.size≤ab:=by omega);(have Bx:∀g,blk A3=some g→bs≤g∧g<wr.heap.size:=fun g hg=>hS.own.blk_lt hg);have Im:=hB.size;clear Bo f9 hm hz hR hB MO Hn;go_wp2_with(with_reducible refine h_A ?_);refine pu.mono ?_;rintro e w5 ⟨a,ah,l5,b5,rfl,gW,uu,eo,Br,SL,Lu⟩;have D7:Hid (ReadTo b (i+1) (xs.map (·.1)++ [a]) l5 b5):=Q1 (ReadTo.step uF.out t3.out CA.out hlt cF.out Lu);have Gk:=Br.size;have gr:=Br.box wP Wq Wq;have fT:=Br.box eR Wq Wq;have CR:w5.heap[pm]?=w9.heap[pm]?:=(Br.2 pm Wq Wq Wq).trans uL;have bc:=BF.trans Br.1;have BN:MpS w5 bs A3 c3 xs:=hS.on (fun g h1 h2=>(Br.2 g Wq Wq Wq).trans (T6 g h1 h2)) Wq;have sx:RA w5 (FB bs A3 w5) a ah:=uu.mono (fun g hg=>⟨by have:=hg.1;omega,hg.2,fun e=>by have:=Bx g e;have:=hg.1;omega⟩);clear pu iL pz Um Hp uL gh wP eR BF T6 uu Br Lu SL cF CA hS;unfold agV at gW;have a_0:=gW.c0;have a_1:=gW.c1;have a_2:=gW.c2;have a_3:=gW.c3;have a_4:=gW.c4;have a_5:=gW.c5;have a_6:=gW.c6;have a_7:=gW.c7;have a_8:=gW.c8;have a_9:=gW.c9;have a_10:=gW.c10;have a_11:=gW.c11;have o3:=gr.c3;have Bp:Own w5 bs 80 12 A3 i c3 (rowC agC xs):=tD.out▸BN.own;go_wp2_with(with_reducible refine h_B ?_);refine zc (jS (W:=w5) Qf slAg underlying82 rfl rfl rfl rfl rfl (a,ah) rfl Bp Wq Wq Wq ?_);intro A9 c9 wA dt fg rQ _;have nI:=BN.push sx (by rw[tD.out];exact dt) fg rQ;have OZ:=gr.grown fg wj;have Fa:=fT.grown fg wj;have mP:=eo.grown bc.size fg (fun g hg=>by have:=Bx g hg;omega);have G6:wA.heap[pm]?=w9.heap[pm]?:=(fg.block pm Wq wj).trans CR;have rS:=bc.grown fg bc.size (fun g hg=>by have:=Bx g hg;omega);have S9:=fg.size;clear BN sx gr fT eo CR bc gW Bp dt fg rQ a_0 a_1 a_2 a_3 a_4 a_5 a_6 a_7 a_8 a_9 a_10 a_11 o3;go_wp2_with(with_reducible refine h_B ?_);refine zc (zn (v:=.slice A9 (i+1) c9) (vs:=[.slice A9 (i+1) c9]) rfl rfl rfl rfl OZ rfl Wj Wz wX #[.int .u8 (x.toNat:Int),.int .u8 (y.toNat:Int),.bool sync,.slice A9 (i+1) c9] Wz ?_);intro wC Rv gA hsC;have uk:=nI.box gA Wq;have Fq:=Fa.grown gA (sne Wq);have Ew:=mP.grown rS.size gA Wx;have Ij:wC.heap[pm]?=w9.heap[pm]?:=(gA.block pm Wq (sne Wq)).trans G6;have wN:=rS.grown gA rS.size Wx;go_wp2_with(with_reducible refine h_A ?_);exact⟨⟨i+1,A9,c9,xs++ [(a,ah)],l5,b5,by omega,by go_num,Q1 (by rw[K0,tD.out];rfl),Q1 (by rw[List.map_append];exact D7.out),uk,Rv,Fq,Ew,Ij,wN,by omega⟩,by simp[RowKit.intOf];omega⟩
  exact Zj_
theorem zcn(kd:UInt8)(hk:kd∈wtL)(a:Ag)(h:AH)(w:World)(ha:RAw w a h):Calls prog 60 #[.int .u8 (kd.toNat:Int),.agg (agV a h)] w (ArgR w (okA kd a) (byA kd a)):=by
 unfold wtL at hk;simp only[K1,Wb,or_false]at hk;rcases hk with rfl|rfl|rfl
 ·exact zbT a h w ha
 ·exact zbU a h w ha
 exact zbV a h w ha
def Xw(code:Nat)(L:List SA)(bs:List UInt8):Prop:=
 ∀(A:Option Addr) (n c:Nat) (w:World),Rd w w.heap.size 12 A n c (rowC saC L)→
  Calls prog 43 #[.agg #[.int .u8 1,.int .u8 (code:Int),.bool false,.slice A n c]] w fun e w'=>∃A2 c2,e= .returned (.tuple #[.slice A2 bs.length c2,.int .i64 0])∧OwnB w' w.heap.size A2 bs.length c2 bs∧Below w.heap.size w w'
theorem za5{code:Nat}(pH:code<256){L:List SA}{bs:List UInt8}(hn:∀a∈L,a.n<18446744073709551616∧a.s.length≤140737488351232)(hl:L.length≤100)(hg:yI ⟨1,code,false,L.map agOf⟩=true)(hp:putM ⟨1,code,false,L.map agOf⟩=bs)(hk:∀kd∈yv (ym 1 code),kd∈wtL):Xw code L bs:=by
 intro A n c w hr;obtain⟨rfl,hm⟩:=rm_S pH hr hn hl;have h:=XK ⟨1,code,false,L.map agOf⟩ A c w hm fun kd ee a h W ha=>zcn kd (hk kd ee) a h W ha
 unfold MPut mtV errM at h;rw[hp,if_pos hg]at h;simp only[List.length_map]at h;exact h
theorem jq(n:Nat)(s:List UInt8)(w:World):
  Calls prog 30 #[.int .u64 (n:Int),.string (str s)] w fun e w'=>e= .returned (.agg #[.bool true,.int .u64 (n:Int),.string (str s),.int .u32 0,.string ⟨#[]⟩,.string ⟨#[]⟩,.slice none 0 0,.int .u8 0,.int .u64 0,.string ⟨#[]⟩,.slice none 0 0,.slice none 0 0])∧Below w.heap.size w w':=by
 have qq8y:=();exact Z1p_
def rlk0(gp:Nat):Array Value:=#[.int .i64 0,.string ⟨#[]⟩,.pointer (some ⟨gp,0,none⟩),.int .u64 255,.int .u64 4096,.string ⟨#[]⟩,.slice none 0 0]
theorem Ve(w:World):Calls prog 11 #[] w fun e w'=>e= .returned (.pointer (some ⟨w.heap.size+1,0,none⟩))∧Box w' w.heap.size 67 #[.slice none 0 0,.bool false]∧Box w' (w.heap.size+1) 38 (rlk0 w.heap.size)∧Below w.heap.size w w'∧w'.heap.size=w.heap.size+2:=by
 go_enter func11,ntmps11;go_wp2_with(with_reducible refine h_A ?_);go_ret;have bK:=Box.new w #[.slice none 0 0,.bool false] 67;have BZ:(w.alloc (.cells #[.slice none 0 0,.bool false] 67)).heap.size=w.heap.size+1:=by simp
 have bF:=Box.new (w.alloc (.cells #[.slice none 0 0,.bool false] 67)) (rlk0 w.heap.size) 38;rw[BZ]at bF;have Ha:=(Below.refl w.heap.size w).alloc (Q2 _) (.cells #[.slice none 0 0,.bool false] 67);exact⟨rfl,bK.alloc _,bF,Ha.alloc Ha.size _,by simp⟩
theorem Qp(lb sz:Nat)(a:As)(A:Option Addr)(n c:Nat)(w:World)(h4:w.cell? ⟨lb,4,none⟩=some (.int .u64 (sz:Int)))(Bw:sz≤1000000)(hr:RdG w w.heap.size A n c a.segs)(hw:a.wf)(hs:∀s∈a.segs,s.load.length≤140737488351232)(hn:n≤140737488351232):
  Calls prog 32 #[.pointer (some ⟨lb,0,none⟩),.agg (asV a.chan a.track A n c)] w fun e w'=>e= .returned (.tuple #[.string (str (jA ((sz:Int)-12) a)),.int .i64 (xa ((sz:Int)-12) a:Int)])∧Below w.heap.size w w':=by
 obtain⟨xb,w0,bD,bo,hX,Hy⟩:=zq w (asV a.chan a.track A n c) 42;have fh:=fun(W:World) (h:Below w.heap.size w W)=>Vf a ((sz:Int)-12) A n c w.heap.size W (hr.below h) h.size hw hs hn
 have AS:lb<w.heap.size:=q6 _ _ h4;have Oa:=Q1 (KH (most:=(sz:Int)-12) hw);have dl:=YF ((sz:Int)-12) a;obtain⟨E,hE⟩:∃E,E=xa ((sz:Int)-12) a:=⟨_,rfl⟩
 obtain⟨FS,m7⟩:∃E,E=cutF ((sz:Int)-12) a:=⟨_,rfl⟩
 unfold jA;rw[←hE,←m7];rw[←m7]at Oa dl;rw[←hE,←m7]at fh;clear hE m7 hr hw hs hn;unfold asV at*;go_enter func32,ntmps32;go_upto_region 1 with fail;rw[←bD,←bo];clear bD bo;refine zt (fun W:World=>Box W xb 42 #[.int .u16 (a.chan:Int),.int .u8 (a.track:Int),.slice A n c]∧W.cell? ⟨lb,4,none⟩=some (.int .u64 (sz:Int))) Wj ?_;have hS:Box w0.drew xb 42 #[.int .u16 (a.chan:Int),.int .u8 (a.track:Int),.slice A n c]∧w0.drew.cell? ⟨lb,4,none⟩=some (.int .u64 (sz:Int)):=⟨hX,(Hy.cell (p:=⟨lb,4,none⟩) AS).trans h4⟩;have Ha:Below w.heap.size w w0.drew:=za Hy 1;have ca:=fh w0.drew Ha;clear hX Hy h4 fh;generalize w0.drew=wd at*;refine ze 0 (v:=?_) rfl Wj Wj Wj hS rfl ?_ ?_;rotate_left
 ·intro wS He;have k:=He.1;have q0:=k.cell (j:=0) rfl;have q1:=k.cell (j:=1) rfl;have q2:=k.cell (j:=2) rfl;go_simp;(with_reducible rfl)
 simp only[q8,q9,Act.put,kI,kv,ky];refine rg_t 1 hS ?_;simp only[g_S];refine rg_t 2 hS ?_;simp only[g_S];refine rg_t 3 hS ?_;simp only[g_S];refine ze 4 (v:=?_) rfl Wj Wj Wj hS rfl ?_ ?_;rotate_left
 ·intro wS He;have k:=He.2;go_simp;(with_reducible rfl)
 simp only[g_S];refine rg_t 5 hS ?_;simp only[g_S];refine rg_t 6 hS ?_;simp only[g_S];have ft:IntKind.i64.wrap (sz:Int)=(sz:Int):=IntWalk.i64_in _ ⟨by omega,by omega⟩;have nU:IntKind.i64.wrap ((sz:Int)-12)=(sz:Int)-12:=IntWalk.i64_in _ ⟨by omega,by omega⟩;rw[ft,nU];clear ft nU;refine zj 7 rfl Wj rfl (fun K hK=>?_);go_simp
 (with_reducible refine ca.mono ?_)
 rintro e w1 ⟨A1,c1,rfl,rT,H3⟩;have Hc:=Ha.trans (H3.mono Ha.size);refine hK _ _ ⟨hS.1.below H3,(H3.cell (p:=⟨lb,4,none⟩) (q6 _ _ hS.2)).trans hS.2⟩ ?_;have i9:=hS.1.below H3;have BG:=(H3.cell (p:=⟨lb,4,none⟩) (q6 _ _ hS.2)).trans hS.2;have N5:OwnF w1 wd.heap.size A1 FS.length c1 FS:=rT;clear hK K ca hS H3 rT;try simp only[g_S]
 have BI:=And.intro i9 BG;refine rg_t 8 BI ?_;simp only[g_S];refine rg_t 9 BI ?_;simp only[g_S];refine rg_t 10 BI ?_;simp only[g_S];refine rg_t 11 BI ?_;simp only[g_S];refine rg_t 12 BI ?_;simp only[g_S];refine zz Wj ?_;clear BG i9 BI;obtain⟨N,hN⟩:∃N,N=FS.length:=⟨_,rfl⟩
 rw[←hN]at N5 dl ⊢;have HN:=Q1 hN;clear hN;go_wp2_with(with_reducible refine h_A ?_);go_loopw [8,9] (fun s8 s9 wr=>∃(i:Nat) (out:List UInt8),i≤N∧s8= .string (str out)∧s9= .int .i64 (i:Int)∧Hid (out=xw (FS.take i))∧out.length≤4096*i∧Below w1.heap.size w1 wr) (fun _ s9 _=>N-(RowKit.intOf s9).toNat)
 case atStart=>exact⟨0,[],by omega,rfl,rfl,Q1 rfl,by simp,Below.refl _ _⟩
 obtain⟨i,out,hi,rfl,rfl,HO,iX,bP⟩:=hrel;by_cases hlt:i<N
 ·have g1:(i:Int)<(N:Int):=by omega
  obtain⟨b,off,rfl,dx,bI,bC⟩:=xF yE (N5.rd.below bP) hlt;have k0:wr.cell? ⟨b,off+i*8,none⟩=_:=bC 0 _ rfl;have k1:=bC 1 _ rfl;have k2:=bC 2 _ rfl;have k3:=bC 3 _ rfl;have k4:=bC 4 _ rfl;have k5:=bC 5 _ rfl;have k6:=bC 6 _ rfl;have k7:=bC 7 _ rfl;have gG:=Oa.out _ (q3 bI);have HP:Hid (xw (FS.take (i+1))=out++FS[i].put):=Q1 (by rw[Zs bI,HO.out]);have eg:=Qa FS[i];clear bC;generalize FS[i]=f at*;have B6:=Vg f wr gG.1 Wq;unfold frV at B6;go_wp2_with(with_reducible refine h_A ?_)
  (with_reducible refine B6.mono ?_)
  rintro e w3 ⟨A3,c3,rfl,eM,Hh⟩;have sk:=bP.trans (Hh.mono bP.size);have fz:=jk (P:=prog) underlying55 underlying9 underlying5 eM.rd;have BZ:=zi out;have cm:=zi f.put;clear B6 k0 k1 k2 k3 k4 k5 k6 k7;go_wp2_with(with_reducible refine h_A ?_);exact⟨⟨i+1,out++f.put,by omega,by first|rfl|(rw[jl]),by go_num,Q1 HP.out.symm,by rw[K0];omega,sk⟩,by simp[RowKit.intOf];omega⟩
 have g1:¬(i:Int)<(N:Int):=by omega
 have HE:Hid (out=xw FS):=Q1 (by rw[HO.out,K2 Nx]);go_wp2_with(with_reducible refine h_A ?_);go_ret2;rw[←HE.out];exact⟨rfl,Hc.trans (bP.mono Hc.size)⟩
theorem j4(code:Nat)(L:List SA)(bs:List UInt8)(B5:Xw code L bs)(iT:bs.length≤10000)(lb sz:Nat)(A:Option Addr)(n c:Nat)(w:World)(hr:Rd w w.heap.size 12 A n c (rowC saC L))(h4:w.cell? ⟨lb,4,none⟩=some (.int .u64 (sz:Int)))(Bw:sz≤1000000):
  Calls prog 29 #[.pointer (some ⟨lb,0,none⟩),.int .u8 (code:Int),.slice A n c] w fun e w'=>e= .returned (.string (str (ctlB sz bs)))∧Below w.heap.size w w':=by
 have qq80:=();exact Z1h_
theorem zbE(A:Option Addr)(n c:Nat)(b:List UInt8)(w:World)(he:MEnv w)(hT:UTabs w)(hr:RdB w w.heap.size A n c b)(hn:n≤100000000):Calls prog 87 #[.slice A n c] w (zcs w b):=
 zbc A n c b w he hr hn (fun kd hk _ _ _ _ _ is h hB ha Bo hne hW=>zcu kd ((qo _ _).1 kd hk) is h hB ha Bo hne (hT.on hW)) fun m A c W _ _ hm hW=>zaT m A c W (he.on hW) (hT.on hW) hm
theorem V1(b:List UInt8):∃p:Mt×Int,GetM b p.1 p.2:=by
 by_cases h2:b.length<2
 ·exact⟨(mt0,4),.inl ⟨h2,rfl,rfl⟩⟩
 cases hf:ym (b.getD 0 0).toNat (b.getD 1 0).toNat with
 | none=>exact⟨(mt0,80),.inr (.inl ⟨by omega,hf,rfl,rfl⟩)⟩
 | some r=>
  by_cases hm:∃m',yI m'=true∧MB m'∧putM m'=b
  ·obtain⟨m,h3,h4,h5⟩:=hm;exact⟨(m,0),.inr (.inr ⟨by omega,by rw[hf];rfl,.inl ⟨rfl,h4,h3,h5⟩⟩)⟩
  exact⟨(mt0,5),.inr (.inr ⟨by omega,by rw[hf];rfl,.inr ⟨rfl,rfl,fun m' h3 h4 h5=>hm ⟨m',h3,h4,h5⟩⟩⟩)⟩
noncomputable def getP(b:List UInt8):Mt×Int:=(V1 b).choose
theorem V2(b:List UInt8):GetM b (getP b).1 (getP b).2:=(V1 b).choose_spec
theorem V3{b:List UInt8}{m:Mt}{er:Int}(h:GetM b m er):m=(getP b).1∧er=(getP b).2:=h.uniq (V2 b)
theorem Jq(b:List UInt8)(h:(getP b).2=0):(getP b).1.args.length=(yv (ym (getP b).1.cls (getP b).1.code)).length:=by
 have hg:=V2 b;rw[h]at hg;rcases hg with⟨_,h2,_⟩|⟨_,_,h2,_⟩|⟨_,_,⟨_,h3,h4,h5⟩|⟨h2,_⟩⟩
 ·omega
 ·omega
 ·exact(ZS h4 h3 h5).2.2.2.2.1
 omega
theorem zbB(b:List UInt8)(hb:b.length≤100000000)(w0:World)(hT:UTabs w0):GetC w0 b (getP b).1 (getP b).2:=by
 intro A n c W hB hr he;have hl:=RdB.length hr;refine(zbE A n c b W he (hT.on hB) hr Wq).mono ?_;exact Z5h_
def Z0(a:As):List UInt8:=match a.segs with
 | []=>[]
 | s::_=>s.load
noncomputable def ctlG(L:LS)(a:As):LS:=L.ctlM a (getP (Z0 a)).1 (getP (Z0 a)).2
theorem V4:CtlOk ctlG:=⟨fun L a s t=>L.lead_ctlM a _ _ s t,fun L a h=>L.ctlM_st a _ _ h⟩
theorem XR{g:GS}{f:Fr}{a:As}(hi:g.Inv)(h:g.out f=some a):∃sg rest,a.segs=sg::rest∧sg.load.length≤16384:=by
 unfold GS.out at h;split at h
 ·rename_i hc
  injection h with h
  rcases g.err_cases f with⟨e,_⟩|⟨_,⟨e,_⟩|⟨bJ,⟨e,_⟩|⟨gE,⟨e,_⟩|⟨e,hl⟩⟩⟩⟩
  ·omega
  ·omega
  ·omega
  ·omega
  have hg:=(hi.goes f.chan f.track).snoc bJ gE hl;have hne:=Y3 hg Wz;have BC:=vt (g.op f.chan f.track++ [f]);have fL:=hg.len;have hs:a.segs=zY (g.op f.chan f.track++ [f]):=by rw[←h]
  cases gw:a.segs with
  | nil=>rw[hs]at gw;exact absurd gw hne
  | cons sg rest=>
   refine⟨sg,rest,rfl,?_⟩;have:=kR (l:=a.segs) (s:=sg) (by rw[gw];simp);rw[hs]at this;omega
 cases h
structure LG(L:LS):Prop where
 inv:L.g.Inv
 sz:L.sz≤4096
 ch:L.ch≤255
 st:L.st<256
theorem V5{M:LS}(h:LB S N k M)(hk:k<N)(a:As):LB S N (k+1) (ctlG M a):=h.ctlM hk a _ _
theorem V6:∀(l:List Fr) (k:Nat) (M:LS),LB S N k M→k+l.length≤N→(∀f∈l,f.wf)→∃k',k'≤k+l.length∧LB S N k' (M.goes ctlG l)
 | [],k,M,h,_,_=>⟨k,by simp,h⟩
 | f::l,k,M,h,hn,hw=>by
  by_cases h5:M.st=5
  ·rw[LS.goes_closed h5];exact⟨k,by omega,h⟩
  rw[LS.goes_cons ctlG M f l h5];simp only[List.length_cons]at hn ⊢;obtain⟨k',h1,h2⟩:=V6 l (k+1) _ (h.take Wq (hw f Wz) ctlG (fun L a hL=>V5 hL Wq a)) Wq (fun x hx=>hw x (by simp[hx]));exact⟨k',by omega,h2⟩
theorem LB.lg{M:LS}(h:LB S N k M):LG M:=⟨h.inv,h.sz,h.ch,h.st'⟩
theorem Kb(b:List UInt8):∀f∈(zu b).1,f.wf:=by
 induction hn:b.length using Nat.strongRecOn generalizing b with
 | ind n ih=>
  subst hn;intro f hf;by_cases hw:zN b=false
  ·rw[qz hw]at hf;cases hf
  have ft:zN b=true:=by simpa using hw
  by_cases gc:b.length<12
  ·rw[xd ft gc]at hf;cases hf
  by_cases hl:b.length<frN b
  ·rw[qg ft Wq hl]at hf;cases hf
  have hN:=(qe ft Wq).1;rw[qh ft Wq Wq]at hf;rcases K1.1 hf with rfl|hf
  ·exact KC b _
  exact ih _ mX (b.drop (frN b)) rfl f hf
theorem vo(b:List UInt8):∀f∈(zu b).1,f.wf∧f.load.length≤4084:=by
 intro f hf;refine⟨Kb b f hf,?_⟩;have h:=(J6 b).1;rw[←h]at hf;unfold YV at hf;have bJ:=(List.mem_filter.1 hf).2;have⟨_,o3⟩:(f.ty≤3∧f.track≤15)∧f.load.length≤4084:=by unfold Fr.ok at bJ;simpa using bJ
 exact o3
theorem XS(sz:Nat):(ctlB sz startB).length≤13*startB.length+12:=jj sz startB
theorem V7{L:LS}(h:LG L)(b s:List UInt8):LG (LS.feed ctlG L b s).1∧(LS.feed ctlG L b s).2.length≤b.length+s.length∧(LS.feed ctlG L b s).1.sent.length≤20000*(b.length+s.length+2)∧(LS.feed ctlG L b s).1.told.length≤b.length+s.length+1:=by
 unfold LS.feed;split
 ·exact⟨⟨h.inv,h.sz,h.ch,h.st⟩,by simp,by simp,by simp⟩
 exact Zy_
end Go.PH
