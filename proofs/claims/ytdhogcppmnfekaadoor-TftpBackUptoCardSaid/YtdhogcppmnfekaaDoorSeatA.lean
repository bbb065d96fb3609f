/- What is told of the library's functions; conditions: none. -/
import Derived.Test.YtdhogcppmnfekaaDoorJvByt
import Derived.Test.YtdhogcppmnfekaaDoorChecked
import Derived.Test.YtdhogcppmnfekaaDoorShelf
import Derived.KernelRfl
namespace Go.Proofs.YtdhogcppmnfekaaDoor.Jv
open Go Go.RowKit Go.Shelf
set_option maxRecDepth 100000
set_option linter.unusedVariables false
def res1 (f : FuncId) : Spec := match f with
  | 32 => i32S
  | _ => ⟨[], []⟩
def okL1 : List FuncId := [32]
noncomputable def E1 : Env := { P := Tryd.prog, intr := fun _ => none, ok := fun f => okL1.contains f, strict := fun _ => false, res := res1, hint := fun _ => .no }
theorem looked1 : lookedB E1 okL1 = true := by kernel_rfl
theorem ok1 : OkOK E1 := okOK_of (fun _ h => h) looked1
theorem mixed1 : E1.P.follows .mixedOrders = true := by kernel_rfl
def clo1 (a0 : Int) : Option Int := bif (decide (a0 ≥ 65)) then (bif (decide (a0 ≤ 90)) then (some (IntKind.i32.wrap ((IntKind.i32.wrap (a0 - 65)) + 97))) else (some a0)) else (some a0)
theorem eq_clo1 (a0 : Int) : @Eq (Option Int) ((mach E1 1).call 32 i32S [.v (.int .i32 a0)]) (clo1 a0) := by kernel_rfl
/-- A capital letter's small one. -/
def lowR (x : Int) : Int := if 65 ≤ x ∧ x ≤ 90 then x + 32 else x
theorem clo1_eq (x : Nat) (h : x ≤ 1114111) : clo1 (x : Int) = some (lowR x) := by
  have hw : ∀ y : Int, -2147483648 ≤ y → y < 2147483648 → IntKind.i32.wrap y = y := fun y h0 h1 => by
    simp only [IntKind.wrap, IntKind.signed, IntKind.bits]
    simp
    omega
  unfold clo1 lowR
  by_cases h1 : (x : Int) ≥ 65
  · by_cases h2 : (x : Int) ≤ 90
    · rw [hw ((x : Int) - 65) (by omega) (by omega), hw _ (by omega) (by omega)]
      simp only [h1, h2, decide_true, cond_true, true_and, and_self, if_true]
      first | done | (rw [if_pos (by omega)]; congr 1; omega) | (congr 1; omega)
    · simp only [h1, h2, decide_true, decide_false, cond_true, cond_false, and_false, if_false]
  · simp only [h1, decide_false, cond_false, false_and, if_false]
theorem lowR_range (x : Nat) (h : x ≤ 1114111) : -2147483648 ≤ lowR x ∧ lowR x ≤ 2147483647 := by
  unfold lowR
  split <;> omega
theorem map_ok {T : Tab} (hT : U8OK T 1 2) : IntrOne Tryd.prog T 31 (mapF 32 lowR) :=
  mapF_ok (E := E1) (T := T) (k := 1) (g3 := 1) (g4 := 2) mixed1 (intrOK_of fun f g hg => by cases hg) ok1 hT (fun x hx => (eq_clo1 x).trans (clo1_eq x hx)) lowR_range
    (fun s w hs hg hn ht => Tryd.strings_Map_grows 32 #[] (enters_of Tryd.func32 (by kernel_rfl) rfl) lowR s w hs hg hn ht)
theorem cut_ok {T : Tab} (hT : NumOK T 0) : IntrOne Tryd.prog T 30 bcutF :=
  bcutF_ok hT fun p1 n c1 b2 o2 c2 xs ys m w hx hy hr1 hr2 h1 hc2 hcap hs hm => bytes_Cut_one Tryd.laysSlT4 p1 n c1 b2 o2 c2 xs ys m w hx hy hr1 hr2 h1 hc2 hcap hs hm
end Go.Proofs.YtdhogcppmnfekaaDoor.Jv
