/- The listed table: what the row's list gives, and a world for the witness. -/
import Derived.Test.YtcfdgndigmcacaaDoorCrcBelow
import Derived.Test.YtcfdgndigmcacaaDoorRow
import Derived.Test.YtcfdgndigmcacaaDoorCards
import Derived.Test.YtcfdgndigmcacaaDoorTie
namespace Go.Proofs.YtcfdgndigmcacaaDoor
open Go.PH Go.RowKit Go.ChangeShapes Go.WideShapes Go.ChangeAt

theorem own : ownKnob Tryd.prog.godebug = none := by kernel_rfl
theorem laidOut : laidOutB Tryd.prog = true := by kernel_rfl
theorem gTab : Tryd.prog.globalNamed "posthouse/crc.table" = some 0 := by kernel_rfl
theorem gTabType : (Tryd.prog.globals[0]?).map (·.type) = some 76 := by kernel_rfl
theorem cellsTab : Tryd.prog.cellsOf 76 = 16 := by kernel_rfl
theorem cellsU32 : Tryd.prog.cellsOf 44 = 1 := by kernel_rfl
def tabInts : List Int := [0, 274646895, 549293790, 820201905, 1098587580, 1361435347, 1640403810, 1905808397, 2197175160, 2460548119, 2722870694, 2987750089, 3280807620, 3553878443, 3811616794, 4084100981]
theorem table {W : World} (h : laidMetH Tryd.prog [("posthouse/crc.table", Rows.laid_posthouse_crc_table)] W) : TabAt W := by
  have h1 : Lib.TabIs Tryd.prog W "posthouse/crc.table" .u32 tabInts := Lib.tabIs_of_head (rest := []) gTab gTabType Tryd.underlying76 Tryd.underlying44 cellsU32 cellsTab h
  intro j hj
  have := h1.cell gTab j hj
  rw [this]
  have e : ∀ j : Fin 16, tabInts.getD j.val 0 = (tab j.val : Int) := by decide
  rw [e ⟨j, hj⟩]
end Go.Proofs.YtcfdgndigmcacaaDoor
