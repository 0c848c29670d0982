/- Parts. -/
import Derived.Test.YtfbkameikhgciaaGreatDoorMh02
set_option linter.all false
set_option maxRecDepth 20000
set_option maxHeartbeats 8000000
section
namespace Go.PH
structure Xd where
 fmt:Nat
 glob:List UInt8
 bran:List UInt8
deriving DecidableEq
def Xd.wf(x:Xd):Prop:=x.fmt<4294967296∧x.glob.length≤140737488351232∧x.bran.length≤140737488351232
def Xd.ok(x:Xd):Bool:= !x.glob.isEmpty&&decide (x.glob.length≤64)&&decide (x.bran.length≤64)
def Xd.err(x:Xd):Nat:=if x.ok then 0 else 40
theorem Xd.ok_iff(x:Xd):x.ok=true↔1≤x.glob.length∧x.glob.length≤64∧x.bran.length≤64:=by
 unfold Xd.ok;have:x.glob.isEmpty=false↔1≤x.glob.length:=by cases x.glob<;>simp
 simp[this,and_assoc]
end Go.PH
end
namespace Go.PH
open Go.RowKit Go.Proofs Go.Proofs.Tryz
def xdV(x:Xd):Array Value:=#[.int .u32 (x.fmt:Int),.string (str x.glob),.string (str x.bran)]
theorem JP:prog.underlying 73=some (.struct (prog.fieldsOf 73)):=by kernel_rfl
theorem KV:prog.stoodInHeld 73=false:=by kernel_rfl
theorem yw:prog.eqGuardType prog.depth 73=false:=by kernel_rfl
theorem zbS{a b:List UInt8}(h:¬a=b):((str a).toList==(str b).toList)=false:=by rw[zn,zn];simpa using h
theorem Xp(a b:Xd)(w:World):(Op.equalIn 10000 73 (.agg (xdV a)) (.agg (xdV b))).run prog w= .ok (decide (a=b)) w:=by
 rw[run_equalIn_struct w 9999 73 _ _ JP KV];simp only[Program.fieldsOf,underlying73];obtain⟨f,g,hh⟩:=a;obtain⟨f',g',h'⟩:=b;unfold xdV;simp only[Xd.mk.injEq];by_cases h:(f:Int)=(f':Int)
 ·have e:=Int.ofNat_inj.1 h;subst e;by_cases h:g=g'
  ·subst h;by_cases h:hh=h'
   ·have qqee:=();exact Z3h_
   have qqed:=();exact Z3h_
  exact Z3h_
 have qqef:=();exact Z3h_
end Go.PH
