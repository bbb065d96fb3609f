/- What the rows give, and a world for the witness; conditions: none. -/
import Derived.Test.YtdhogcppmnfekaaDoorFns
import Derived.Test.YtdhogcppmnfekaaDoorCards
import Derived.Test.YtdhogcppmnfekaaDoorTie
import Derived.Lib.LaidU8T
import Derived.PinnedBridge
import Derived.Shelf.Vars
import Derived.Lib.LaidTab
import Derived.Stop.LaidErr
namespace Go.Proofs.YtdhogcppmnfekaaDoor.Jv
open Go Go.RowKit Go.ChangeShapes Go.WideShapes Go.ChangeAt Go.Shelf
set_option linter.unusedVariables false
set_option linter.unusedSimpArgs false
theorem own : ownKnob Tryd.prog.godebug = none := by kernel_rfl
theorem laidOut : laidOutB Tryd.prog = true := by kernel_rfl
def laid0 : List (String × DataW Unit) := [("unicode/utf8.acceptRanges", Rows.laid_unicode_utf8_acceptRanges), ("unicode/utf8.first", Rows.laid_unicode_utf8_first)]
def u8ren : Ren := ⟨fun n => n, fun | 5 => 5 | 119 => 93 | 138 => 95 | 139 => 96 | n => n, fun | 3 => 1 | 4 => 2 | n => n⟩
theorem u8types : U8Types Tryd.prog u8ren := { t5 := Tryd.underlying5, t119 := Tryd.underlying93, t138 := Tryd.underlying95, t139 := Tryd.underlying96 }
theorem u8extra : U8Extra Tryd.prog u8ren := { n3 := by kernel_rfl, n4 := by kernel_rfl, y3 := by kernel_rfl, y4 := by kernel_rfl, c5 := by kernel_rfl, c119 := by kernel_rfl, c138 := by kernel_rfl }
theorem tabs8 {W : World} (h : laidMetH Tryd.prog laid0 W) : Lib.Utf8Tabs 1 2 W :=
  utf8Tabs_of_readsT u8types u8extra (Lib.laidMet.reads (show laidMet Tryd.prog laid0 W from h) (by rw [← Pinned.utf8First_eq]; exact List.mem_cons_of_mem _ (List.mem_cons_self)))
    (Lib.laidMet.reads (show laidMet Tryd.prog laid0 W from h) (by rw [show Lib.acceptData = Rows.laid_unicode_utf8_acceptRanges by kernel_rfl]; exact List.mem_cons_self))
theorem num0 {W : World} (hs : W.ShapedOpen Tryd.prog) : ∃ m : Int, W.cell? ⟨0, 0, none⟩ = some (.int .i64 m) :=
  cell_of_shapedOpen_int (P := Tryd.prog) (g := 0) (t := 3) (zero := #[.int .i64 0]) hs (of_decide_eq_true (by kernel_rfl)) (by kernel_rfl) rfl (by kernel_rfl) (by kernel_rfl) Tryd.underlying3
/-- What the row gives every run of the machine. -/
theorem intr_of {W : World} (h : laidMetH Tryd.prog laid0 W) (hs : W.ShapedOpen Tryd.prog) : IntrOK E0 (tabOf W [0, 1, 2]) :=
  intr0_ok (tabOf_num (num0 hs) (by simp)) (tabOf_u8 (tabs8 h) (by simp) (by simp))
/-- A world for the witness. -/
noncomputable def laidWorld (os : Os) : World :=
  { World.holding Tryd.prog os ⟨#[], #[], []⟩ with heap := (((World.holding Tryd.prog os ⟨#[], #[], []⟩).heap.modify 1 fun
      | .cells _ t frozen => .cells (Lib.firstTab.map fun z => Value.int .u8 z).toArray t frozen
      | o => o).modify 2 fun
      | .cells _ t frozen => .cells ((List.range 16).flatMap fun i => [Value.int .u8 (Lib.accLo i), Value.int .u8 (Lib.accHi i)]).toArray t frozen
      | o => o) }
/-! ### The bound -/
theorem bulk_all {H : Type} (l : List (DataW H)) : Rows.uptoBulkAll l = (l.map Rows.uptoBulk).sum := by
  induction l with
  | nil => simp [Rows.uptoBulkAll]
  | cons x r ih => simp only [Rows.uptoBulkAll, List.map_cons, List.sum_cons, ih]
theorem bulk_ok {H : Type} : BulkOK (Rows.uptoBulk : DataW H → Nat) where
  lit := fun l => by cases l <;> simp [Rows.uptoBulk]
  str := fun s => by simp [Rows.uptoBulk]
  nil := by simp [Rows.uptoBulk]
  slice := fun es sp => by simp only [Rows.uptoBulk, bulk_all]; omega
  agg := fun ps => by simp only [Rows.uptoBulk, bulk_all]; omega
theorem bulk_mem {H : Type} {l : List (DataW H)} {d : DataW H} (h : d ∈ l) : Rows.uptoBulk d ≤ Rows.uptoBulkAll l := by
  induction l with
  | nil => cases h
  | cons x r ih =>
    simp only [Rows.uptoBulkAll]
    rcases List.mem_cons.1 h with e | e
    · subst e; omega
    · have := ih e; omega
def upQ (n : Nat) : Prop := n ≤ 1048576
theorem upto_Q {H : Type} {ds gs : List (DataW H)} (hk : Rows.uptoSmall H (ds ++ gs) = true) : ∀ d ∈ ds, ∀ n, (∀ B, BulkOK B → n ≤ B d) → upQ n := fun d hd n hn => by
  have h1 := hn _ bulk_ok
  have h2 : Rows.uptoBulkAll (ds ++ gs) ≤ 1048576 := of_decide_eq_true hk
  have h3 := bulk_mem (List.mem_append_left gs hd)
  unfold upQ
  omega
end Go.Proofs.YtdhogcppmnfekaaDoor.Jv
