/- TftpAsks, plainly; conditions: none. -/
import Derived.Test.YtdhogcppmnfekaaDoorTftp3
namespace Go.Proofs.YtdhogcppmnfekaaDoor.Jv
open Go
set_option linter.unusedVariables false
theorem rsame18_nil : ref18_Same [] [] = some true := by
  unfold ref18_Same
  have : ref18_Same_p43 ([], [], 0) = some (.inl ()) := iter_end (by unfold ref18_Same_p43b; rfl)
  simp only [List.length_nil]
  rw [show (((0 : Nat) : Int) != ((0 : Nat) : Int)) = false from rfl]
  simp only [cond_false]
  rw [this]
  rfl
theorem rsame18_one (x : Int × (Int × Int × Int) × Int) : ref18_Same [x] [x] = some true := by
  unfold ref18_Same
  have h1 : ref18_Same_p43b ([x], [x], 0) = some (.inl ([x], [x], ((1 : Nat) : Int))) := by
    unfold ref18_Same_p43b
    simp [show IntKind.i64.wrap 1 = 1 from rfl]
  have h2 : ref18_Same_p43b ([x], [x], ((1 : Nat) : Int)) = some (.inr (.inl ())) := by
    unfold ref18_Same_p43b
    rfl
  have : ref18_Same_p43 ([x], [x], 0) = some (.inl ()) := (iter_go h1).trans (iter_end h2)
  rw [this]
  simp only [bne_self_eq_false, cond_false]
  rfl
theorem tftpAsks_ok (y0 : Int) (y1 : List UInt8) (k0 : okT (.int .i64) y0 ∧ bulkT (.int .i64) y0 ≤ 1048576) (k1 : okT (.sl .u8) y1 ∧ bulkT (.sl .u8) y1 ≤ 1048576) : law19_TftpAsks y0 y1 = some true := by
  have h := bulk_bytes k1.2
  unfold law19_TftpAsks tftp_Asks ref19_Asks
  rw [tparse_eq (by omega), rparse_eq (by omega)]
  cases hp : parseS y1 with
  | none =>
    simp only [Option.bind_some, Bool.not_false, cond_true]
    rw [rsame18_nil]
    rfl
  | some r =>
    simp only [Option.bind_some, Bool.not_true, cond_false]
    cases decide (y0 < 1) with
    | true => simp only [cond_true, Option.bind_some]; rw [rsame18_nil]; rfl
    | false =>
      cases decide (y0 > 65535) with
      | true => simp only [cond_true, cond_false, Option.bind_some]; rw [rsame18_nil]; rfl
      | false => simp only [cond_false, Option.bind_some]; rw [rsame18_one]; rfl
end Go.Proofs.YtdhogcppmnfekaaDoor.Jv
