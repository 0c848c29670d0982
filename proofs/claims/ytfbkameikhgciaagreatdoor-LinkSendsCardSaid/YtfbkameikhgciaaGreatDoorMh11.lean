/- Parts. -/
import Derived.Test.YtfbkameikhgciaaGreatDoorMh07
set_option linter.all false
set_option maxRecDepth 20000
set_option maxHeartbeats 8000000
namespace Go.PH
open Go.RowKit Go.Proofs Go.Proofs.Tryz
theorem Qrd.cells{F:Nat→Prop}{w:World}{b:Nat}{l:List UInt8}{bad:Bool}(h:Qrd F w b l bad):∃A c,w.cell? ⟨b,0,none⟩=some (.slice A l.length c)∧w.cell? ⟨b,1,none⟩=some (.bool bad):=by
 obtain⟨A,n,c,h0,h1,_,_,hr,_⟩:=h;rw[hr.length];exact⟨A,c,h0,h1⟩
theorem Kq(A:Option Addr)(n c:Nat)(l:List UInt8)(w:World)(hr:RdB w w.heap.size A n c l)(hn:n≤140737488351232):
  Calls prog 139 #[.slice A n c] w fun e w'=>e= .returned (.tuple #[.agg (xdV (getR l).1),.int .i64 ((getR l).2.1:Nat),.int .i64 ((getR l).2.2:Nat)])∧Below w.heap.size w w':=by
 have qq1w:=();exact Z6_
end Go.PH
