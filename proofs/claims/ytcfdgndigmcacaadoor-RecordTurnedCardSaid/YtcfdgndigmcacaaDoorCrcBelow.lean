/- The listed table stays below a mark. -/
import Derived.Test.YtcfdgndigmcacaaDoorCrcWalk
namespace Go.PH
open Go.RowKit Go.Proofs

theorem TabAt.below {w w' : World} (h : TabAt w) {B : Nat} (hb : Below B w w') (hg : 0 < B) : TabAt w' := fun j hj => (hb.cell (p := ⟨0, j, none⟩) hg).trans (h j hj)
end Go.PH
