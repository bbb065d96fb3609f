/- What the rows give, and a world for the witness; conditions: none. -/
import Derived.Test.YtpkhlncohbakkaaDoorFns
import Derived.Test.YtpkhlncohbakkaaDoorCards
import Derived.Test.YtpkhlncohbakkaaDoorTie
import Derived.PinnedBridge
import Derived.Shelf.Vars
import Derived.Lib.LaidTab
import Derived.Lib.LaidU8T
import Derived.Stop.LaidErr
import Derived.Deep.DeepWitnessRowRef
namespace Go.Proofs.YtpkhlncohbakkaaDoor.Jv
open Go Go.RowKit Go.ChangeShapes Go.WideShapes Go.ChangeAt Go.Shelf
set_option linter.unusedVariables false
set_option linter.unusedSimpArgs false
theorem own : ownKnob Tryd.prog.godebug = none := by kernel_rfl
theorem laidOut : laidOutB Tryd.prog = true := by kernel_rfl
def laid0 : List (String × DataW Unit) := [("math/bits.deBruijn32tab", Rows.laid_math_bits_deBruijn32tab), ("math/bits.deBruijn64tab", Rows.laid_math_bits_deBruijn64tab), ("internal/strconv.uint64pow10", Rows.laid_internal_strconv_uint64pow10), ("unicode/utf8.acceptRanges", Rows.laid_unicode_utf8_acceptRanges), ("strconv.ErrRange", Rows.laid_strconv_ErrRange), ("strconv.ErrSyntax", Rows.laid_strconv_ErrSyntax), ("unicode/utf8.first", Rows.laid_unicode_utf8_first)]
theorem gE2 : Tryd.prog.globalNamed "strconv.ErrSyntax" = some 3 := by kernel_rfl
theorem gE3 : Tryd.prog.globalNamed "strconv.ErrRange" = some 4 := by kernel_rfl
theorem t2_ : (Tryd.prog.globals[3]?).map (·.type) = some 73 := by kernel_rfl
theorem t3_ : (Tryd.prog.globals[4]?).map (·.type) = some 73 := by kernel_rfl
theorem t1_ : (Tryd.prog.globals[5]?).map (·.type) = some 118 := by kernel_rfl
theorem cel10 : Tryd.prog.cellsOf 118 = 20 := by kernel_rfl
theorem cel64 : Tryd.prog.cellsOf 28 = 1 := by kernel_rfl
theorem celE : Tryd.prog.cellsOf 126 = 1 := by kernel_rfl
theorem cel9 : Tryd.prog.cellsOf 9 = 1 := by kernel_rfl
theorem star : "*" ++ "errors.errorString" = "*errors.errorString" := by decide
theorem rowE (u : TypeId) (h : Tryd.prog.typeName? 3 u = some "*errors.errorString") : u = 124 :=
  typeName_ptr_named (nm := "errors.errorString") (by rw [star]; kernel_rfl) (by kernel_rfl) (by decide) u (by rw [star]; exact h)
theorem tab10 {W : World} (h : laidMetH Tryd.prog laid0 W) : Lib.TabIs Tryd.prog W "internal/strconv.uint64pow10" .u64 Lib.pow10Tab :=
  Lib.tabIs_of_head (rest := [("unicode/utf8.acceptRanges", Rows.laid_unicode_utf8_acceptRanges), ("strconv.ErrRange", Rows.laid_strconv_ErrRange), ("strconv.ErrSyntax", Rows.laid_strconv_ErrSyntax), ("unicode/utf8.first", Rows.laid_unicode_utf8_first)]) g10 t1_ Tryd.underlying118 Tryd.underlying28 cel64 cel10 (laidMet.tail (laidMet.tail (show laidMet Tryd.prog laid0 W from h)))
theorem errS {W : World} (h : laidMetH Tryd.prog laid0 W) : ∃ (t : TypeId) (u : Value), W.cell? ⟨3, 0, none⟩ = some (.iface t u) := by
  obtain ⟨a, s, hv, _⟩ := laid_sentinel (r := [("unicode/utf8.first", Rows.laid_unicode_utf8_first)]) (laidMet.tail (laidMet.tail (laidMet.tail (laidMet.tail (laidMet.tail (show laidMet Tryd.prog laid0 W from h)))))) gE2 t2_ Tryd.underlying73 rowE Tryd.underlying124 Tryd.underlying126 rfl rfl Tryd.underlying9 celE cel9
  exact ⟨_, _, by simpa using World.var?_cell gE2 hv 0⟩
theorem errR {W : World} (h : laidMetH Tryd.prog laid0 W) : ∃ (t : TypeId) (u : Value), W.cell? ⟨4, 0, none⟩ = some (.iface t u) := by
  obtain ⟨a, s, hv, _⟩ := laid_sentinel (r := [("strconv.ErrSyntax", Rows.laid_strconv_ErrSyntax), ("unicode/utf8.first", Rows.laid_unicode_utf8_first)]) (laidMet.tail (laidMet.tail (laidMet.tail (laidMet.tail (show laidMet Tryd.prog laid0 W from h))))) gE3 t3_ Tryd.underlying73 rowE Tryd.underlying124 Tryd.underlying126 rfl rfl Tryd.underlying9 celE cel9
  exact ⟨_, _, by simpa using World.var?_cell gE3 hv 0⟩
def u8ren : Ren := ⟨fun n => n, fun | 5 => 5 | 119 => 91 | 138 => 93 | 139 => 94 | n => n, fun | 3 => 1 | 4 => 2 | n => n⟩
theorem u8types : U8Types Tryd.prog u8ren := { t5 := Tryd.underlying5, t119 := Tryd.underlying91, t138 := Tryd.underlying93, t139 := Tryd.underlying94 }
theorem u8extra : U8Extra Tryd.prog u8ren := { n3 := by kernel_rfl, n4 := by kernel_rfl, y3 := by kernel_rfl, y4 := by kernel_rfl, c5 := by kernel_rfl, c119 := by kernel_rfl, c138 := by kernel_rfl }
theorem tabs8 {W : World} (h : laidMetH Tryd.prog laid0 W) : Lib.Utf8Tabs 1 2 W :=
  utf8Tabs_of_readsT u8types u8extra (Lib.laidMet.reads (show laidMet Tryd.prog laid0 W from h) (by rw [← Pinned.utf8First_eq]; exact List.mem_cons_of_mem _ (List.mem_cons_of_mem _ (List.mem_cons_of_mem _ (List.mem_cons_of_mem _ (List.mem_cons_of_mem _ (List.mem_cons_of_mem _ (List.mem_cons_self))))))))
    (Lib.laidMet.reads (show laidMet Tryd.prog laid0 W from h) (by rw [show Lib.acceptData = Rows.laid_unicode_utf8_acceptRanges by kernel_rfl]; exact List.mem_cons_of_mem _ (List.mem_cons_of_mem _ (List.mem_cons_of_mem _ (List.mem_cons_self)))))
theorem num0 {W : World} (hs : W.ShapedOpen Tryd.prog) : ∃ m : Int, W.cell? ⟨0, 0, none⟩ = some (.int .i64 m) :=
  cell_of_shapedOpen_int (P := Tryd.prog) (g := 0) (t := 3) (zero := #[.int .i64 0]) hs (of_decide_eq_true (by kernel_rfl)) (by kernel_rfl) rfl (by kernel_rfl) (by kernel_rfl) Tryd.underlying3
noncomputable def low : Nat := (World.holding Tryd.prog default ⟨#[], #[], []⟩).heap.size
/-- What the row gives every run of the machine. -/
theorem intr_of {W : World} (h : laidMetH Tryd.prog laid0 W) (hs : W.ShapedOpen Tryd.prog) : IntrOK E0 (tabOf W [0, 1, 2, 3, 4, 5]) :=
  intr0_ok (tabOf_ok (tab10 h) g10 (by simp)) (tabOf_num (num0 hs) (by simp)) (have ⟨_, _, e⟩ := errS h; tabOf_err e (by simp)) (have ⟨_, _, e⟩ := errR h; tabOf_err e (by simp)) (tabOf_u8 (tabs8 h) (by simp) (by simp))
/-- A world for the witness. -/
noncomputable def laidWorld (os : Os) : World :=
  { World.holding Tryd.prog os ⟨#[], #[], []⟩ with heap := ((((((((World.holding Tryd.prog os ⟨#[.cells #[.string ⟨#[118, 97, 108, 117, 101, 32, 111, 117, 116, 32, 111, 102, 32, 114, 97, 110, 103, 101]⟩] 126, .cells #[.string ⟨#[105, 110, 118, 97, 108, 105, 100, 32, 115, 121, 110, 116, 97, 120]⟩] 126], #[], []⟩).heap.modify 1 fun
      | .cells _ t frozen => .cells (Lib.firstTab.map fun z => Value.int .u8 z).toArray t frozen
      | o => o).modify 2 fun
      | .cells _ t frozen => .cells ((List.range 16).flatMap fun i => [Value.int .u8 (Lib.accLo i), Value.int .u8 (Lib.accHi i)]).toArray t frozen
      | o => o).modify 7 fun
      | .cells _ t frozen => .cells (([0, 1, 56, 2, 57, 49, 28, 3, 61, 58, 42, 50, 38, 29, 17, 4, 62, 47, 59, 36, 45, 43, 51, 22, 53, 39, 33, 30, 24, 18, 12, 5, 63, 55, 48, 27, 60, 41, 37, 16, 46, 35, 44, 21, 52, 32, 23, 11, 54, 26, 40, 15, 34, 20, 31, 10, 25, 14, 19, 9, 13, 8, 7, 6] : List Int).map fun z => Value.int .u8 z).toArray t frozen
      | o => o).modify 5 fun
      | .cells _ t frozen => .cells (Lib.pow10Tab.map fun z => Value.int .u64 z).toArray t frozen
      | o => o).modify 6 fun
      | .cells _ t frozen => .cells (([0, 1, 28, 2, 29, 14, 24, 3, 30, 22, 20, 15, 25, 17, 4, 8, 31, 27, 13, 23, 21, 19, 16, 7, 26, 12, 18, 6, 11, 5, 10, 9] : List Int).map fun z => Value.int .u8 z).toArray t frozen
      | o => o).modify 4 fun
      | .cells _ t frozen => .cells #[.iface 124 (.pointer (some ⟨low, 0, none⟩))] t frozen
      | o => o).modify 3 fun
      | .cells _ t frozen => .cells #[.iface 124 (.pointer (some ⟨low + 1, 0, none⟩))] t frozen
      | o => o) }
/-! ### The bound -/
theorem bulk_all {H : Type} (l : List (DataW H)) : Rows.uptoBulkAll l = (l.map Rows.uptoBulk).sum := by
  induction l with
  | nil => simp [Rows.uptoBulkAll]
  | cons x r ih => simp only [Rows.uptoBulkAll, List.map_cons, List.sum_cons, ih]
theorem bulk_ok {H : Type} : BulkOK (Rows.uptoBulk : DataW H → Nat) where
  lit := fun l => by cases l <;> simp [Rows.uptoBulk]
  str := fun s => by simp [Rows.uptoBulk]
  nil := by simp [Rows.uptoBulk]
  slice := fun es sp => by simp only [Rows.uptoBulk, bulk_all]; omega
  agg := fun ps => by simp only [Rows.uptoBulk, bulk_all]; omega
theorem bulk_mem {H : Type} {l : List (DataW H)} {d : DataW H} (h : d ∈ l) : Rows.uptoBulk d ≤ Rows.uptoBulkAll l := by
  induction l with
  | nil => cases h
  | cons x r ih =>
    simp only [Rows.uptoBulkAll]
    rcases List.mem_cons.1 h with e | e
    · subst e; omega
    · have := ih e; omega
def upQ (n : Nat) : Prop := n ≤ 1048576
theorem upto_Q {H : Type} {ds gs : List (DataW H)} (hk : Rows.uptoSmall H (ds ++ gs) = true) : ∀ d ∈ ds, ∀ n, (∀ B, BulkOK B → n ≤ B d) → upQ n := fun d hd n hn => by
  have h1 := hn _ bulk_ok
  have h2 : Rows.uptoBulkAll (ds ++ gs) ≤ 1048576 := of_decide_eq_true hk
  have h3 := bulk_mem (List.mem_append_left gs hd)
  unfold upQ
  omega
end Go.Proofs.YtpkhlncohbakkaaDoor.Jv
