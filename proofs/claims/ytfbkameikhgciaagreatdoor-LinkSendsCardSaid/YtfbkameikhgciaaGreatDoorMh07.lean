/- Parts. -/
import Derived.Test.YtfbkameikhgciaaGreatDoorMh05
set_option linter.all false
set_option maxRecDepth 20000
set_option maxHeartbeats 8000000
namespace Go.PH
open Go.RowKit Go.Proofs Go.Proofs.Tryz
theorem Xt(x:Xd)(w:World)(hw:x.wf):
  Calls prog 121 #[.agg (xdV x)] w fun e w'=>e= .returned (.int .i64 x.err)∧Below w.heap.size w w':=by
 have qq81:=();exact Z1f_
theorem Yf(x:Xd)(w:World)(hw:x.wf):
  Calls prog 115 #[.agg (xdV x)] w fun e w'=>e= .returned (.int .i64 x.err)∧Below w.heap.size w w':=by
 exact Z1f_
end Go.PH
section
namespace Go.PH
def Xd.bytes(x:Xd):List UInt8:=be 4 x.fmt++be 1 x.glob.length++x.glob++be 1 x.bran.length++x.bran
def Xd.put(x:Xd):List UInt8:=if x.ok then x.bytes else []
theorem Xd.put_ok{x:Xd}(h:x.ok=true):x.put=x.bytes:=by unfold Xd.put;rw[if_pos h]
theorem Xd.put_no{x:Xd}(h:x.ok=false):x.put=[]:=by unfold Xd.put;rw[if_neg (by simp[h])]
theorem Xd.bytes_length(x:Xd):x.bytes.length=6+x.glob.length+x.bran.length:=by
 simp[Xd.bytes,zr];omega
theorem zdk{v:Nat}:puts [] v 4=be 4 v:=by rw[yV WJ];simp
theorem YW{n:Nat}(h:n≤64):zE n 1=0:=by
 unfold zE;rw[if_pos (.inl rfl),if_pos (show n<256 ^ (1:Int).toNat by show n<256;omega)]
theorem ZL{b s:List UInt8}(h:s.length≤64):zP b s 1=b++be 1 s.length++s:=by
 unfold zP;rw[if_pos (YW h)];rfl
theorem be1{n:Nat}:be 1 n=[UInt8.ofNat n]:=by simp[be]
def xd00:Xd:=⟨0,[],[]⟩
def getT(l:List UInt8)(bad:Bool):List UInt8×List UInt8×Bool:=zT l bad 1 255
def getX(l:List UInt8):Xd×List UInt8×Bool:=
 (⟨(mnum l false 4).1 % 4294967296,(getT (mnum l false 4).2.1 (mnum l false 4).2.2).1,(getT (getT (mnum l false 4).2.1 (mnum l false 4).2.2).2.1 (getT (mnum l false 4).2.1 (mnum l false 4).2.2).2.2).1⟩,
  (getT (getT (mnum l false 4).2.1 (mnum l false 4).2.2).2.1 (getT (mnum l false 4).2.1 (mnum l false 4).2.2).2.2).2)
def getR(l:List UInt8):Xd×Nat×Nat:=
 if(getX l).2.2=true then(xd00,0,4)else if(getX l).1.ok=true then((getX l).1,l.length-(getX l).2.1.length,0)else(xd00,0,40)
theorem Jb(l:List UInt8):(mnum l false 4).1<4294967296:=by
 rw[qG WJ];unfold xe;split
 ·simp[kR]
 simp only;refine Nat.lt_of_lt_of_le (vw _) ?_;refine Nat.le_trans (Nat.pow_le_pow_right Wq (show(l.take (4:Int).toNat).length≤4 by rw[List.length_take];show min 4 _≤4;omega)) WJ
theorem Jc(l:List UInt8)(bad:Bool)(x:Int):(xe l bad x).1.length≤l.length∧(xe l bad x).2.1.length≤l.length:=by
 unfold xe;split
 ·simp
 simp only[List.length_take,List.length_drop];omega
theorem Vf(l:List UInt8)(bad:Bool)(x:Int):(mnum l bad x).2.1.length≤l.length:=by
 unfold mnum;split
 ·exact(Jc l bad x).2
 simp
theorem Jd(l:List UInt8)(bad:Bool)(x most:Int):(zT l bad x most).1.length≤l.length∧(zT l bad x most).2.1.length≤l.length:=by
 unfold zT;split
 ·simp only;split
  ·simp
  have h1:=Jc (mnum l bad x).2.1 (mnum l bad x).2.2 ((mnum l bad x).1:Int);have h2:=Vf l bad x;omega
 simp
theorem Vg(l:List UInt8):(getX l).1.glob.length≤l.length∧(getX l).1.bran.length≤l.length∧(getX l).2.1.length≤l.length:=by
 unfold getX getT;simp only;have h1:=Vf l false 4;have h2:=Jd (mnum l false 4).2.1 (mnum l false 4).2.2 1 255;have h3:=Jd (zT (mnum l false 4).2.1 (mnum l false 4).2.2 1 255).2.1 (zT (mnum l false 4).2.1 (mnum l false 4).2.2 1 255).2.2 1 255;omega
theorem Je{s rest:List UInt8}(h:s.length≤64):getT (be 1 s.length++s++rest) false=(s,rest,false):=by
 unfold getT;have hn:=ve 1 WJ s.length (s++rest);rw[Nat.mod_eq_of_lt (by show s.length<256;omega)]at hn;have hn:mnum (be 1 s.length++(s++rest)) false 1=(s.length,s++rest,false):=hn;rw[Za Wq,List.append_assoc,hn];simp only;rw[if_neg Hq,ZM]
theorem vG{x:Xd}(hf:x.fmt<4294967296)(hk:x.ok=true)(rest:List UInt8):getX (x.bytes++rest)=(x,rest,false):=by
 obtain⟨h1,h2,h3⟩:=(Xd.ok_iff x).1 hk;have e:x.bytes++rest=be 4 x.fmt++(be 1 x.glob.length++x.glob++(be 1 x.bran.length++x.bran++rest)):=by simp[Xd.bytes]
 have hn:mnum (x.bytes++rest) false 4=(x.fmt,be 1 x.glob.length++x.glob++(be 1 x.bran.length++x.bran++rest),false):=by
  rw[e];have:=ve 4 WJ x.fmt (be 1 x.glob.length++x.glob++(be 1 x.bran.length++x.bran++rest));rw[Nat.mod_eq_of_lt (by show x.fmt<256 ^ 4;omega)]at this;exact this
 unfold getX;rw[hn];simp only;rw[Je h2];simp only;rw[Je h3,Nat.mod_eq_of_lt hf]
theorem Yp{x:Xd}(hf:x.fmt<4294967296)(hk:x.ok=true)(rest:List UInt8):getR (x.bytes++rest)=(x,x.bytes.length,0):=by
 unfold getR;rw[vG hf hk];simp[hk]
end Go.PH
end
namespace Go.PH
open Go.RowKit Go.Proofs Go.Proofs.Tryz
theorem zdj{v:Nat}(h:v<256):(.int .u8 (v:Int):Value)=u8v (UInt8.ofNat v):=by simp[u8v];omega
theorem Ve(x:Xd)(w:World)(hw:x.wf):
  Calls prog 103 #[.agg (xdV x)] w fun e w'=>∃A2 c2,e= .returned (.tuple #[.slice A2 x.put.length c2,.int .i64 x.err])∧Own w' w.heap.size 5 1 A2 x.put.length c2 (x.put.map u8v)∧Below w.heap.size w w':=by
 have qq3d:=();exact Zj_
def zx:Array Value:=#[.int .u32 0,.string ⟨#[]⟩,.string ⟨#[]⟩]
theorem zcK:zx= #[.int .u32 0,.string ⟨#[]⟩,.string ⟨#[]⟩]:=rfl
theorem Xd.err_no{x:Xd}(h:x.ok=false):x.err=40:=by simp[Xd.err,h]
theorem Xd.err_ok{x:Xd}(h:x.ok=true):x.err=0:=by simp[Xd.err,h]
theorem Jt:xdV xd00=zx:=by unfold xdV xd00 zx;rfl
theorem VN(A:Option Addr)(n c:Nat)(l:List UInt8)(w:World)(hr:RdB w w.heap.size A n c l)(hn:n≤140737488351232):
  Calls prog 159 #[.slice A n c] w fun e w'=>e= .returned (.tuple #[.agg (xdV (getR l).1),.int .i64 ((getR l).2.1:Nat),.int .i64 ((getR l).2.2:Nat)])∧Below w.heap.size w w':=by
 exact Z6_
theorem J5(x:Xd)(w:World)(hw:x.wf):
  Calls prog 96 #[.agg (xdV x)] w fun e w'=>∃A2 c2,e= .returned (.tuple #[.slice A2 x.put.length c2,.int .i64 x.err])∧Own w' w.heap.size 5 1 A2 x.put.length c2 (x.put.map u8v)∧Below w.heap.size w w':=by
 exact Zj_
end Go.PH
section
namespace Go.PH
open Go.RowKit Go.Proofs Go.ChangeShapes Go.WideShapes Go.ChangeAt Go.Deep
variable {H : Type} {enc : TypeId × Value → H} {W : World}
end Go.PH
end
