/- Layer 14: what the rows give, the witness world, opened tuples; conditions: none. -/
import Derived.Test.YtgldfdpdjlohiaaDoorSeat
import Derived.Test.YtgldfdpdjlohiaaDoorCards
import Derived.Test.YtgldfdpdjlohiaaDoorTie
import Derived.Lib.LaidTab
import Derived.Stop.LaidErr
namespace Go.Proofs.YtgldfdpdjlohiaaDoor.Iv
open Go Go.RowKit Go.ChangeShapes Go.WideShapes Go.ChangeAt
theorem own : ownKnob Tryd.prog.godebug = none := by kernel_rfl
theorem laidOut : laidOutB Tryd.prog = true := by kernel_rfl
theorem open26 {ps : List PV} (h : IsTy Tryd.prog 8 26 ps) : ∃ a b sf sh sl df dh dl p q, ps = [.v (.int .i64 a), .v (.int .i64 b), .v (.int .i64 sf), .v (.int .u64 sh), .v (.int .u64 sl), .v (.int .i64 df), .v (.int .u64 dh), .v (.int .u64 dl), .v (.int .i64 p), .v (.int .i64 q)] := by
  simp only [IsTy, Tryd.underlying26, isF, Tryd.underlying3, Tryd.underlying24, Tryd.underlying22] at h
  obtain ⟨_, _, ⟨a, _, _, rfl⟩, ⟨_, _, ⟨b, _, _, rfl⟩, ⟨_, _, ⟨_, _, ⟨sf, _, _, rfl⟩, ⟨_, _, ⟨sh, _, _, rfl⟩, ⟨_, _, ⟨sl, _, _, rfl⟩, rfl, rfl⟩, rfl⟩, rfl⟩, ⟨_, _, ⟨_, _, ⟨df, _, _, rfl⟩, ⟨_, _, ⟨dh, _, _, rfl⟩, ⟨_, _, ⟨dl, _, _, rfl⟩, rfl, rfl⟩, rfl⟩, rfl⟩, ⟨_, _, ⟨p, _, _, rfl⟩, ⟨_, _, ⟨q, _, _, rfl⟩, rfl, rfl⟩, rfl⟩, rfl⟩, rfl⟩, rfl⟩, rfl⟩ := h
  exact ⟨a, b, sf, sh, sl, df, dh, dl, p, q, rfl⟩
/-! ### The tables -/
theorem t89 : (Tryd.prog.globals[3]?).map (·.type) = some 89 := by kernel_rfl
theorem t83 : (Tryd.prog.globals[0]?).map (·.type) = some 83 := by kernel_rfl
theorem cel89 : Tryd.prog.cellsOf 89 = 64 := by kernel_rfl
theorem cel83 : Tryd.prog.cellsOf 83 = 20 := by kernel_rfl
theorem cel5 : Tryd.prog.cellsOf 5 = 1 := by kernel_rfl
theorem cel22 : Tryd.prog.cellsOf 22 = 1 := by kernel_rfl
def laid0 : List (String × DataW Unit) := [("math/bits.deBruijn32tab", Rows.laid_math_bits_deBruijn32tab), ("math/bits.deBruijn64tab", Rows.laid_math_bits_deBruijn64tab), ("internal/strconv.uint64pow10", Rows.laid_internal_strconv_uint64pow10)]
theorem tab64 {W : World} (h : laidMetH Tryd.prog laid0 W) : Lib.TabIs Tryd.prog W "math/bits.deBruijn64tab" .u8 db64 :=
  Lib.tabIs_of_head (rest := [("internal/strconv.uint64pow10", Rows.laid_internal_strconv_uint64pow10)]) g64 t89 Tryd.underlying89 Tryd.underlying5 cel5 cel89 (laidMet.tail (show laidMet Tryd.prog laid0 W from h))
theorem tab10 {W : World} (h : laidMetH Tryd.prog laid0 W) : Lib.TabIs Tryd.prog W "internal/strconv.uint64pow10" .u64 Lib.pow10Tab :=
  Lib.tabIs_of_head (rest := []) g10 t83 Tryd.underlying83 Tryd.underlying22 cel22 cel83 (laidMet.tail (laidMet.tail (show laidMet Tryd.prog laid0 W from h)))
/-- What the row gives every run of the machine. -/
theorem intr_of {W : World} (h : laidMetH Tryd.prog laid0 W) : IntrOK E0 (tabOf W [3, 0]) :=
  intr0_ok (tabOf_ok (tab64 h) g64 (by simp)) (tabOf_ok (tab10 h) g10 (by simp))
/-- A world for the witness. -/
noncomputable def laidWorld (os : Os) : World :=
  { World.holding Tryd.prog os ⟨#[], #[], []⟩ with heap := ((((World.holding Tryd.prog os ⟨#[], #[], []⟩).heap.modify 3 fun
      | .cells _ t frozen => .cells (db64.map fun z => Value.int .u8 z).toArray t frozen
      | o => o).modify 0 fun
      | .cells _ t frozen => .cells (Lib.pow10Tab.map fun z => Value.int .u64 z).toArray t frozen
      | o => o).modify 2 fun
      | .cells _ t frozen => .cells ([0, 1, 28, 2, 29, 14, 24, 3, 30, 22, 20, 15, 25, 17, 4, 8, 31, 27, 13, 23, 21, 19, 16, 7, 26, 12, 18, 6, 11, 5, 10, 9].map fun z => Value.int .u8 z).toArray t frozen
      | o => o) }
end Go.Proofs.YtgldfdpdjlohiaaDoor.Iv
