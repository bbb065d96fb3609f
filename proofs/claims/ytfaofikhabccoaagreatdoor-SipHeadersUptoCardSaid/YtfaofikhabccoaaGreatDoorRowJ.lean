/- What the rows give, and a world for the witness; conditions: none. -/
import Derived.Test.YtfaofikhabccoaaGreatDoorFns
import Derived.Test.YtfaofikhabccoaaGreatDoorCards
import Derived.Test.YtfaofikhabccoaaGreatDoorTie
import Derived.PinnedBridge
import Derived.Shelf.Vars
import Derived.Lib.LaidTab
import Derived.Lib.LaidU8T
import Derived.Stop.LaidErr
import Derived.Deep.DeepWitnessRowRef
namespace Go.Proofs.YtfaofikhabccoaaGreatDoor.Jv
open Go Go.RowKit Go.ChangeShapes Go.WideShapes Go.ChangeAt Go.Shelf
set_option linter.unusedVariables false
set_option linter.unusedSimpArgs false
theorem own : ownKnob Tryz.prog.godebug = none := by kernel_rfl
theorem laidOut : laidOutB Tryz.prog = true := by kernel_rfl
def laid0 : List (String × DataW Unit) := [("math/bits.deBruijn32tab", Rows.laid_math_bits_deBruijn32tab), ("math/bits.deBruijn64tab", Rows.laid_math_bits_deBruijn64tab), ("internal/strconv.uint64pow10", Rows.laid_internal_strconv_uint64pow10), ("unicode/utf8.acceptRanges", Rows.laid_unicode_utf8_acceptRanges), ("strconv.ErrRange", Rows.laid_strconv_ErrRange), ("strconv.ErrSyntax", Rows.laid_strconv_ErrSyntax), ("unicode/utf8.first", Rows.laid_unicode_utf8_first)]
theorem gE2 : Tryz.prog.globalNamed "strconv.ErrSyntax" = some 1 := by kernel_rfl
theorem gE3 : Tryz.prog.globalNamed "strconv.ErrRange" = some 2 := by kernel_rfl
theorem t2_ : (Tryz.prog.globals[1]?).map (·.type) = some 85 := by kernel_rfl
theorem t3_ : (Tryz.prog.globals[2]?).map (·.type) = some 85 := by kernel_rfl
theorem celE : Tryz.prog.cellsOf 141 = 1 := by kernel_rfl
theorem cel9 : Tryz.prog.cellsOf 9 = 1 := by kernel_rfl
theorem star : "*" ++ "errors.errorString" = "*errors.errorString" := by decide
theorem rowE (u : TypeId) (h : Tryz.prog.typeName? 3 u = some "*errors.errorString") : u = 139 :=
  typeName_ptr_named (nm := "errors.errorString") (by rw [star]; kernel_rfl) (by kernel_rfl) (by decide) u (by rw [star]; exact h)
theorem errS {W : World} (h : laidMetH Tryz.prog laid0 W) : ∃ (t : TypeId) (u : Value), W.cell? ⟨1, 0, none⟩ = some (.iface t u) := by
  obtain ⟨a, s, hv, _⟩ := laid_sentinel (r := [("unicode/utf8.first", Rows.laid_unicode_utf8_first)]) (laidMet.tail (laidMet.tail (laidMet.tail (laidMet.tail (laidMet.tail (show laidMet Tryz.prog laid0 W from h)))))) gE2 t2_ Tryz.underlying85 rowE Tryz.underlying139 Tryz.underlying141 rfl rfl Tryz.underlying9 celE cel9
  exact ⟨_, _, by simpa using World.var?_cell gE2 hv 0⟩
theorem errR {W : World} (h : laidMetH Tryz.prog laid0 W) : ∃ (t : TypeId) (u : Value), W.cell? ⟨2, 0, none⟩ = some (.iface t u) := by
  obtain ⟨a, s, hv, _⟩ := laid_sentinel (r := [("strconv.ErrSyntax", Rows.laid_strconv_ErrSyntax), ("unicode/utf8.first", Rows.laid_unicode_utf8_first)]) (laidMet.tail (laidMet.tail (laidMet.tail (laidMet.tail (show laidMet Tryz.prog laid0 W from h))))) gE3 t3_ Tryz.underlying85 rowE Tryz.underlying139 Tryz.underlying141 rfl rfl Tryz.underlying9 celE cel9
  exact ⟨_, _, by simpa using World.var?_cell gE3 hv 0⟩
theorem num0 {W : World} (hs : W.ShapedOpen Tryz.prog) : ∃ m : Int, W.cell? ⟨0, 0, none⟩ = some (.int .i64 m) :=
  cell_of_shapedOpen_int (P := Tryz.prog) (g := 0) (t := 3) (zero := #[.int .i64 0]) hs (of_decide_eq_true (by kernel_rfl)) (by kernel_rfl) rfl (by kernel_rfl) (by kernel_rfl) Tryz.underlying3
noncomputable def low : Nat := (World.holding Tryz.prog default ⟨#[], #[], []⟩).heap.size
/-- What the row gives every run of the machine. -/
theorem intr_of {W : World} (h : laidMetH Tryz.prog laid0 W) (hs : W.ShapedOpen Tryz.prog) : IntrOK E0 (tabOf W [0, 1, 2]) :=
  intr0_ok (tabOf_num (num0 hs) (by simp)) (have ⟨_, _, e⟩ := errS h; tabOf_err e (by simp)) (have ⟨_, _, e⟩ := errR h; tabOf_err e (by simp))
/-- A world for the witness. -/
noncomputable def laidWorld (os : Os) : World :=
  { World.holding Tryz.prog os ⟨#[], #[], []⟩ with heap := ((((((((World.holding Tryz.prog os ⟨#[.cells #[.string ⟨#[118, 97, 108, 117, 101, 32, 111, 117, 116, 32, 111, 102, 32, 114, 97, 110, 103, 101]⟩] 141, .cells #[.string ⟨#[105, 110, 118, 97, 108, 105, 100, 32, 115, 121, 110, 116, 97, 120]⟩] 141], #[], []⟩).heap.modify 3 fun
      | .cells _ t frozen => .cells (Lib.firstTab.map fun z => Value.int .u8 z).toArray t frozen
      | o => o).modify 4 fun
      | .cells _ t frozen => .cells ((List.range 16).flatMap fun i => [Value.int .u8 (Lib.accLo i), Value.int .u8 (Lib.accHi i)]).toArray t frozen
      | o => o).modify 7 fun
      | .cells _ t frozen => .cells (([0, 1, 56, 2, 57, 49, 28, 3, 61, 58, 42, 50, 38, 29, 17, 4, 62, 47, 59, 36, 45, 43, 51, 22, 53, 39, 33, 30, 24, 18, 12, 5, 63, 55, 48, 27, 60, 41, 37, 16, 46, 35, 44, 21, 52, 32, 23, 11, 54, 26, 40, 15, 34, 20, 31, 10, 25, 14, 19, 9, 13, 8, 7, 6] : List Int).map fun z => Value.int .u8 z).toArray t frozen
      | o => o).modify 5 fun
      | .cells _ t frozen => .cells (Lib.pow10Tab.map fun z => Value.int .u64 z).toArray t frozen
      | o => o).modify 6 fun
      | .cells _ t frozen => .cells (([0, 1, 28, 2, 29, 14, 24, 3, 30, 22, 20, 15, 25, 17, 4, 8, 31, 27, 13, 23, 21, 19, 16, 7, 26, 12, 18, 6, 11, 5, 10, 9] : List Int).map fun z => Value.int .u8 z).toArray t frozen
      | o => o).modify 2 fun
      | .cells _ t frozen => .cells #[.iface 139 (.pointer (some ⟨low, 0, none⟩))] t frozen
      | o => o).modify 1 fun
      | .cells _ t frozen => .cells #[.iface 139 (.pointer (some ⟨low + 1, 0, none⟩))] t frozen
      | o => o) }
/-! ### The bound -/
theorem bulk_all {H : Type} (l : List (DataW H)) : Rows.uptoBulkAll l = (l.map Rows.uptoBulk).sum := by
  induction l with
  | nil => simp [Rows.uptoBulkAll]
  | cons x r ih => simp only [Rows.uptoBulkAll, List.map_cons, List.sum_cons, ih]
theorem bulk_ok {H : Type} : BulkOK (Rows.uptoBulk : DataW H → Nat) where
  lit := fun l => by cases l <;> simp [Rows.uptoBulk]
  str := fun s => by simp [Rows.uptoBulk]
  nil := by simp [Rows.uptoBulk]
  slice := fun es sp => by simp only [Rows.uptoBulk, bulk_all]; omega
  agg := fun ps => by simp only [Rows.uptoBulk, bulk_all]; omega
theorem bulk_mem {H : Type} {l : List (DataW H)} {d : DataW H} (h : d ∈ l) : Rows.uptoBulk d ≤ Rows.uptoBulkAll l := by
  induction l with
  | nil => cases h
  | cons x r ih =>
    simp only [Rows.uptoBulkAll]
    rcases List.mem_cons.1 h with e | e
    · subst e; omega
    · have := ih e; omega
def upQ (n : Nat) : Prop := n ≤ 1048576
theorem upto_Q {H : Type} {ds gs : List (DataW H)} (hk : Rows.uptoSmall H (ds ++ gs) = true) : ∀ d ∈ ds, ∀ n, (∀ B, BulkOK B → n ≤ B d) → upQ n := fun d hd n hn => by
  have h1 := hn _ bulk_ok
  have h2 : Rows.uptoBulkAll (ds ++ gs) ≤ 1048576 := of_decide_eq_true hk
  have h3 := bulk_mem (List.mem_append_left gs hd)
  unfold upQ
  omega
end Go.Proofs.YtfaofikhabccoaaGreatDoor.Jv
