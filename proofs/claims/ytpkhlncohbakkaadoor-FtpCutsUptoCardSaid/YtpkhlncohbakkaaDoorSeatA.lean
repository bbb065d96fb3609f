/- What is told of the library's functions; conditions: none. -/
import Derived.Test.YtpkhlncohbakkaaDoorJvByt
import Derived.Test.YtpkhlncohbakkaaDoorJvNumb
import Derived.Test.YtpkhlncohbakkaaDoorChecked
import Derived.Test.YtpkhlncohbakkaaDoorShelf
import Derived.KernelRfl
namespace Go.Proofs.YtpkhlncohbakkaaDoor.Jv
open Go Go.RowKit Go.Shelf
set_option maxRecDepth 100000
set_option linter.unusedVariables false
set_option linter.unusedSimpArgs false
theorem g10 : Tryd.prog.globalNamed "internal/strconv.uint64pow10" = some 5 := by kernel_rfl
def res1 (f : FuncId) : Spec := match f with
  | 22 => i32S
  | _ => ⟨[], []⟩
def okL1 : List FuncId := [22]
noncomputable def E1 : Env := { P := Tryd.prog, intr := fun _ => none, ok := fun f => okL1.contains f, strict := fun _ => false, res := res1, hint := fun _ => .no }
theorem looked1 : lookedB E1 okL1 = true := by kernel_rfl
theorem ok1 : OkOK E1 := okOK_of (fun _ h => h) looked1
theorem mixed1 : E1.P.follows .mixedOrders = true := by kernel_rfl
def clo1 (a0 : Int) : Option Int := bif (decide (a0 ≥ 97)) then (bif (decide (a0 ≤ 122)) then (some (IntKind.i32.wrap ((IntKind.i32.wrap (a0 - 97)) + 65))) else (some a0)) else (some a0)
theorem eq_clo1 (a0 : Int) : @Eq (Option Int) ((mach E1 1).call 22 i32S [.v (.int .i32 a0)]) (clo1 a0) := by kernel_rfl
/-- A small letter's capital one. -/
def upR (x : Int) : Int := if 97 ≤ x ∧ x ≤ 122 then x - 32 else x
theorem clo1_eq (x : Nat) (h : x ≤ 1114111) : clo1 (x : Int) = some (upR x) := by
  have hw : ∀ y : Int, -2147483648 ≤ y → y < 2147483648 → IntKind.i32.wrap y = y := fun y h0 h1 => by
    simp only [IntKind.wrap, IntKind.signed, IntKind.bits]
    simp
    omega
  unfold clo1 upR
  by_cases h1 : (x : Int) ≥ 97
  · by_cases h2 : (x : Int) ≤ 122
    · rw [hw ((x : Int) - 97) (by omega) (by omega), hw _ (by omega) (by omega)]
      simp only [h1, h2, decide_true, cond_true, true_and, and_self, if_true]
      first | done | (rw [if_pos (by omega)]; congr 1; omega) | (congr 1; omega)
    · simp only [h1, h2, decide_true, decide_false, cond_true, cond_false, and_false, if_false]
  · simp only [h1, decide_false, cond_false, false_and, if_false]
theorem upR_range (x : Nat) (h : x ≤ 1114111) : -2147483648 ≤ upR x ∧ upR x ≤ 2147483647 := by
  unfold upR
  split <;> omega
theorem map_ok {T : Tab} (hT : U8OK T 1 2) : IntrOne Tryd.prog T 21 (mapF 22 upR) :=
  mapF_ok (E := E1) (T := T) (k := 1) (g3 := 1) (g4 := 2) mixed1 (intrOK_of fun f g hg => by cases hg) ok1 hT (fun x hx => (eq_clo1 x).trans (clo1_eq x hx)) upR_range
    (fun s w hs hg hn ht => Tryd.strings_Map_grows 22 #[] (enters_of Tryd.func22 (by kernel_rfl) rfl) upR s w hs hg hn ht)
end Go.Proofs.YtpkhlncohbakkaaDoor.Jv
