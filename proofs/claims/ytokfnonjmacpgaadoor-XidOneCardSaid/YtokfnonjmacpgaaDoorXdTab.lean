/- The listed variables of names: what the row's list gives, and a world for the witness. -/
import Derived.Test.YtokfnonjmacpgaaDoorXdEnv
import Derived.Test.YtokfnonjmacpgaaDoorRow
import Derived.Test.YtokfnonjmacpgaaDoorCards
import Derived.Test.YtokfnonjmacpgaaDoorTie
import Derived.Lib.LaidTab
import Derived.Stop.LaidErr
set_option linter.all false
set_option linter.unusedSimpArgs false
set_option linter.unusedVariables false
namespace Go.Proofs.YtokfnonjmacpgaaDoor
open Go.PH Go.RowKit Go.ChangeShapes Go.WideShapes Go.ChangeAt

theorem own : ownKnob Tryd.prog.godebug = none := by kernel_rfl
theorem laidOut : laidOutB Tryd.prog = true := by kernel_rfl
def nameList : List (String × DataW Unit) := [("math/bits.deBruijn32tab", Rows.laid_math_bits_deBruijn32tab), ("math/bits.deBruijn64tab", Rows.laid_math_bits_deBruijn64tab), ("internal/strconv.uint64pow10", Rows.laid_internal_strconv_uint64pow10), ("unicode/utf8.acceptRanges", Rows.laid_unicode_utf8_acceptRanges), ("strconv.ErrRange", Rows.laid_strconv_ErrRange), ("strconv.ErrSyntax", Rows.laid_strconv_ErrSyntax), ("unicode/utf8.first", Rows.laid_unicode_utf8_first)]
theorem g32 : Tryd.prog.globalNamed "math/bits.deBruijn32tab" = some 6 := by kernel_rfl
theorem g64 : Tryd.prog.globalNamed "math/bits.deBruijn64tab" = some 7 := by kernel_rfl
theorem g64Type : (Tryd.prog.globals[7]?).map (·.type) = some 162 := by kernel_rfl
theorem gPow : Tryd.prog.globalNamed "internal/strconv.uint64pow10" = some 3 := by kernel_rfl
theorem gPowType : (Tryd.prog.globals[3]?).map (·.type) = some 138 := by kernel_rfl
theorem gSyn : Tryd.prog.globalNamed "strconv.ErrSyntax" = some 1 := by kernel_rfl
theorem gSynType : (Tryd.prog.globals[1]?).map (·.type) = some 61 := by kernel_rfl
theorem gRng : Tryd.prog.globalNamed "strconv.ErrRange" = some 2 := by kernel_rfl
theorem gRngType : (Tryd.prog.globals[2]?).map (·.type) = some 61 := by kernel_rfl
theorem starE : "*" ++ "errors.errorString" = "*errors.errorString" := by decide
theorem rowE (u : TypeId) (h : Tryd.prog.typeName? 3 u = some "*errors.errorString") : u = 148 :=
  typeName_ptr_named (nm := "errors.errorString") (by rw [starE]; kernel_rfl) (by kernel_rfl) (by decide) u (by rw [starE]; exact h)
def deb64 : List Int := [0, 1, 56, 2, 57, 49, 28, 3, 61, 58, 42, 50, 38, 29, 17, 4, 62, 47, 59, 36, 45, 43, 51, 22, 53, 39, 33, 30, 24, 18, 12, 5, 63, 55, 48, 27, 60, 41, 37, 16, 46, 35, 44, 21, 52, 32, 23, 11, 54, 26, 40, 15, 34, 20, 31, 10, 25, 14, 19, 9, 13, 8, 7, 6]
theorem env {W : World} (h : laidMetH Tryd.prog nameList W) (hsh : W.ShapedOpen Tryd.prog) : XEnv W := by
  have h : laidMet Tryd.prog nameList W := h
  have t64 : Lib.TabIs Tryd.prog W "math/bits.deBruijn64tab" .u8 deb64 := Lib.tabIs_of_head g64 g64Type Tryd.underlying162 Tryd.underlying5 (by kernel_rfl) (by kernel_rfl) h.tail
  have tpow : Lib.TabIs Tryd.prog W "internal/strconv.uint64pow10" .u64 Lib.pow10Tab := Lib.tabIs_of_head gPow gPowType Tryd.underlying138 Tryd.underlying59 (by kernel_rfl) (by kernel_rfl) h.tail.tail
  obtain ⟨a1, s1, hv1, _, _, _⟩ := laid_sentinel h.tail.tail.tail.tail gRng gRngType Tryd.underlying61 rowE Tryd.underlying148 Tryd.underlying150 rfl rfl Tryd.underlying9 (by kernel_rfl) (by kernel_rfl)
  obtain ⟨a0, s0, hv0, _, _, _⟩ := laid_sentinel h.tail.tail.tail.tail.tail gSyn gSynType Tryd.underlying61 rowE Tryd.underlying148 Tryd.underlying150 rfl rfl Tryd.underlying9 (by kernel_rfl) (by kernel_rfl)
  exact {
    mx := Tryd.laysM146.s1_3 W hsh
    tab := tpow
    syn := ⟨_, _, hv0⟩
    rng := ⟨_, _, hv1⟩
    lt := by
      have := World.block_lt_of_cell? W _ (t64.cell g64 0 (by decide))
      simp only at this
      omega }
/-! A world for the witness: each listed variable as its initialiser lays it. -/
def u8s (l : List Nat) : Array Value := (l.map fun (n : Nat) => Value.int .u8 (n : Int)).toArray
def u64s (l : List Nat) : Array Value := (l.map fun (n : Nat) => Value.int .u64 (n : Int)).toArray
def deb32N : List Nat := [0, 1, 28, 2, 29, 14, 24, 3, 30, 22, 20, 15, 25, 17, 4, 8, 31, 27, 13, 23, 21, 19, 16, 7, 26, 12, 18, 6, 11, 5, 10, 9]
def deb64N : List Nat := [0, 1, 56, 2, 57, 49, 28, 3, 61, 58, 42, 50, 38, 29, 17, 4, 62, 47, 59, 36, 45, 43, 51, 22, 53, 39, 33, 30, 24, 18, 12, 5, 63, 55, 48, 27, 60, 41, 37, 16, 46, 35, 44, 21, 52, 32, 23, 11, 54, 26, 40, 15, 34, 20, 31, 10, 25, 14, 19, 9, 13, 8, 7, 6]
def powN : List Nat := [1, 10, 100, 1000, 10000, 100000, 1000000, 10000000, 100000000, 1000000000, 10000000000, 100000000000, 1000000000000, 10000000000000, 100000000000000, 1000000000000000, 10000000000000000, 100000000000000000, 1000000000000000000, 10000000000000000000]
def accN : List Nat := [128, 191, 160, 191, 128, 159, 144, 191, 128, 143, 0, 0, 0, 0, 0, 0, 0, 0, 0, 0, 0, 0, 0, 0, 0, 0, 0, 0, 0, 0, 0, 0]
def textSyn : ByteArray := { data := #[105, 110, 118, 97, 108, 105, 100, 32, 115, 121, 110, 116, 97, 120] }
def textRng : ByteArray := { data := #[118, 97, 108, 117, 101, 32, 111, 117, 116, 32, 111, 102, 32, 114, 97, 110, 103, 101] }
def withCells (h : Array Obj) (g : Nat) (cs : Array Value) : Array Obj := h.modify g fun
  | .cells _ t frozen => .cells cs t frozen
  | o => o
noncomputable def low : Nat := (World.holding Tryd.prog default ⟨#[], #[], []⟩).heap.size
noncomputable def wit (os : Os) : World :=
  let w0 := World.holding Tryd.prog os ⟨#[.cells #[.string textSyn] 150, .cells #[.string textRng] 150], #[], []⟩
  { w0 with heap := withCells (withCells (withCells (withCells (withCells (withCells (withCells w0.heap 6 (u8s deb32N)) 7 (u8s deb64N)) 3 (u64s powN)) 5 (u8s accN)) 4 (u8s Go.Pinned.utf8FirstZ)) 2 #[.iface 148 (.pointer (some ⟨low + 1, 0, none⟩))]) 1 #[.iface 148 (.pointer (some ⟨low, 0, none⟩))] }
theorem names_met (os : Os) (args : Array Value) : laidMet Tryd.prog nameList ((wit os).forCall (fun _ _ => 0) ⟨#[], args, []⟩).memory :=
  laidMet_of_run' 8 (by kernel_rfl) (by kernel_rfl)
end Go.Proofs.YtokfnonjmacpgaaDoor
