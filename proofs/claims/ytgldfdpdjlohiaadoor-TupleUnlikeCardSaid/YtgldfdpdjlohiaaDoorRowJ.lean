/- Layer 14: what the rows give, the witness world, opened tuples; conditions: none. -/
import Derived.Test.YtgldfdpdjlohiaaDoorFns
import Derived.Test.YtgldfdpdjlohiaaDoorCards
import Derived.Test.YtgldfdpdjlohiaaDoorTie
import Derived.Lib.LaidTab
import Derived.Stop.LaidErr
namespace Go.Proofs.YtgldfdpdjlohiaaDoor.Jv
open Go Go.RowKit Go.ChangeShapes Go.WideShapes Go.ChangeAt
theorem own : ownKnob Tryd.prog.godebug = none := by kernel_rfl
theorem laidOut : laidOutB Tryd.prog = true := by kernel_rfl
/-! ### The tables -/
theorem t89 : (Tryd.prog.globals[3]?).map (·.type) = some 89 := by kernel_rfl
theorem t83 : (Tryd.prog.globals[0]?).map (·.type) = some 83 := by kernel_rfl
theorem cel89 : Tryd.prog.cellsOf 89 = 64 := by kernel_rfl
theorem cel83 : Tryd.prog.cellsOf 83 = 20 := by kernel_rfl
theorem cel5 : Tryd.prog.cellsOf 5 = 1 := by kernel_rfl
theorem cel22 : Tryd.prog.cellsOf 22 = 1 := by kernel_rfl
def laid0 : List (String × DataW Unit) := [("math/bits.deBruijn32tab", Rows.laid_math_bits_deBruijn32tab), ("math/bits.deBruijn64tab", Rows.laid_math_bits_deBruijn64tab), ("internal/strconv.uint64pow10", Rows.laid_internal_strconv_uint64pow10)]
theorem tab64 {W : World} (h : laidMetH Tryd.prog laid0 W) : Lib.TabIs Tryd.prog W "math/bits.deBruijn64tab" .u8 db64 :=
  Lib.tabIs_of_head (rest := [("internal/strconv.uint64pow10", Rows.laid_internal_strconv_uint64pow10)]) g64 t89 Tryd.underlying89 Tryd.underlying5 cel5 cel89 (laidMet.tail (show laidMet Tryd.prog laid0 W from h))
theorem tab10 {W : World} (h : laidMetH Tryd.prog laid0 W) : Lib.TabIs Tryd.prog W "internal/strconv.uint64pow10" .u64 Lib.pow10Tab :=
  Lib.tabIs_of_head (rest := []) g10 t83 Tryd.underlying83 Tryd.underlying22 cel22 cel83 (laidMet.tail (laidMet.tail (show laidMet Tryd.prog laid0 W from h)))
/-- What the row gives every run of the machine. -/
theorem intr_of {W : World} (h : laidMetH Tryd.prog laid0 W) : IntrOK E0 (tabOf W [3, 0]) :=
  intr0_ok (tabOf_ok (tab64 h) g64 (by simp)) (tabOf_ok (tab10 h) g10 (by simp))
/-- A world for the witness. -/
noncomputable def laidWorld (os : Os) : World :=
  { World.holding Tryd.prog os ⟨#[], #[], []⟩ with heap := ((((World.holding Tryd.prog os ⟨#[], #[], []⟩).heap.modify 3 fun
      | .cells _ t frozen => .cells (db64.map fun z => Value.int .u8 z).toArray t frozen
      | o => o).modify 0 fun
      | .cells _ t frozen => .cells (Lib.pow10Tab.map fun z => Value.int .u64 z).toArray t frozen
      | o => o).modify 2 fun
      | .cells _ t frozen => .cells ([0, 1, 28, 2, 29, 14, 24, 3, 30, 22, 20, 15, 25, 17, 4, 8, 31, 27, 13, 23, 21, 19, 16, 7, 26, 12, 18, 6, 11, 5, 10, 9].map fun z => Value.int .u8 z).toArray t frozen
      | o => o) }
end Go.Proofs.YtgldfdpdjlohiaaDoor.Jv
