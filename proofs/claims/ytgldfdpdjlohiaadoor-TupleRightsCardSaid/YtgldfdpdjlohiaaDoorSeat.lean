/- Stockade, layer 14: what the machine is of; conditions: none. -/
import Derived.Test.YtgldfdpdjlohiaaDoorIvTree
import Derived.Test.YtgldfdpdjlohiaaDoorChecked
import Derived.Test.YtgldfdpdjlohiaaDoorShelf
import Derived.KernelRfl
namespace Go.Proofs.YtgldfdpdjlohiaaDoor.Iv
open Go Go.RowKit
def trues : Nat → List Bool
  | 0 => []
  | n + 1 => true :: trues n
/-- bits.TrailingZeros of 16. -/
def tz16F : List PV → Option PV
  | [.v (.int .u64 16)] => some (.v (.int .i64 4))
  | _ => none
def intr0 (f : FuncId) : Option (List PV → Option PV) := match f with
  | 72 => some tz16F
  | 47 => some joinF
  | 40 => some itoaF
  | _ => none
def okL : List FuncId := [3, 4, 5, 6, 7, 8, 9, 10, 11, 12, 13, 14, 15, 16, 17, 18, 19, 20, 21, 22, 23, 24, 25, 26, 27, 28, 29, 30, 31, 32, 33, 34, 35, 36, 37, 38, 39, 41, 42, 43, 44, 45, 46, 48, 49, 51, 52, 53, 54, 58, 65, 71]
noncomputable def E0 : Env := { P := Tryd.prog, inl := fun _ => false, keep := fun _ => trues 130, intr := intr0, ok := fun f => okL.contains f }
theorem looked0 : lookedB E0 okL = true := by kernel_rfl
theorem ok0 : OkOK E0 := okOK_of (fun _ h => h) looked0
theorem mixed0 : E0.P.follows .mixedOrders = true := by kernel_rfl
theorem tzIx : (IntKind.u64.wrap (bits BinOp.and IntKind.u64 16 (IntKind.u64.wrap (-16)) * 285870213051353865) / 288230376151711744) = 15 := by decide +kernel
set_option maxRecDepth 100000 in
theorem tz16_walk (w : World) (h : w.cell? { block := 3, off := (IntKind.u64.wrap (bits BinOp.and IntKind.u64 16 (IntKind.u64.wrap (-16)) * 285870213051353865) / 288230376151711744).toNat } = some (.int .u8 4)) : Calls Tryd.prog 72 #[.int .u64 16] w fun e w' => e = .returned (.int .i64 4) ∧ Below w.heap.size w w' := by
  go_enter Tryd.func72, Tryd.ntmps72
  go_wp2
  all_goals go_ret
  all_goals exact ⟨rfl, by repeat (first | exact Below.refl _ _ | apply Below.drew)⟩
def db64 : List Int := [0, 1, 56, 2, 57, 49, 28, 3, 61, 58, 42, 50, 38, 29, 17, 4, 62, 47, 59, 36, 45, 43, 51, 22, 53, 39, 33, 30, 24, 18, 12, 5, 63, 55, 48, 27, 60, 41, 37, 16, 46, 35, 44, 21, 52, 32, 23, 11, 54, 26, 40, 15, 34, 20, 31, 10, 25, 14, 19, 9, 13, 8, 7, 6]
theorem g64 : Tryd.prog.globalNamed "math/bits.deBruijn64tab" = some 3 := by kernel_rfl
theorem g10 : Tryd.prog.globalNamed "internal/strconv.uint64pow10" = some 0 := by kernel_rfl
theorem tz16_ok {T : Tab} (htab : TabOK Tryd.prog T "math/bits.deBruijn64tab" .u8 db64) : IntrOne Tryd.prog T 72 tz16F := by
  intro args r hr S w vs hG hi hx
  unfold tz16F at hr
  split at hr
  · cases hr
    obtain ⟨v1, r1, rfl, h2, h3⟩ := hx
    simp only [RPs] at h3
    subst h3
    simp only [RP] at h2
    subst h2
    refine (tz16_walk w (by rw [tzIx]; exact htab.cell hG g64 (i := 15) rfl)).mono ?_
    rintro e w' ⟨rfl, h4⟩
    exact ⟨_, rfl, h4, rfl⟩
  · cases hr
theorem intr0_ok {T : Tab} (h64 : TabOK Tryd.prog T "math/bits.deBruijn64tab" .u8 db64) (h10 : TabOK Tryd.prog T "internal/strconv.uint64pow10" .u64 Lib.pow10Tab) : IntrOK E0 T := intrOK_of fun f g hg => by
  change intr0 f = some g at hg
  unfold intr0 at hg
  split at hg
  · cases hg; exact tz16_ok h64
  · cases hg; exact joinF_ok Tryd.strings_Join_none Tryd.strings_Join
  · cases hg; exact itoaF_ok h10 fun n h0 h1 w ht => Tryd.strconv_Itoa n h0 h1 w ht
  · cases hg
end Go.Proofs.YtgldfdpdjlohiaaDoor.Iv
