/- TftpReads, plainly; conditions: none. -/
import Derived.Test.YtdhogcppmnfekaaDoorTftp3
namespace Go.Proofs.YtdhogcppmnfekaaDoor.Jv
open Go
theorem tftpReads_ok (y0 : List UInt8) (k0 : okT (.sl .u8) y0 ∧ bulkT (.sl .u8) y0 ≤ 1048576) : law19_TftpReads y0 = some true := by
  have h := bulk_bytes k0.2
  unfold law19_TftpReads
  rw [tparse_eq (by omega), rparse_eq (by omega)]
  cases hp : parseS y0 with
  | none =>
    simp only [Option.bind_some]
    rw [ours_eq (by simp)]
    simp only [Option.bind_some]
    rw [rsame_eq (by simp), beq_self_eq_true]
    rfl
  | some r =>
    have hl := parseS_len hp
    simp only [Option.bind_some]
    rw [ours_eq (r := (r.1, r.2.1, r.2.2.1, r.2.2.2)) (by simp only; omega)]
    simp only [Option.bind_some]
    rw [rsame_eq (by simp only; omega), beq_self_eq_true]
    rfl
end Go.Proofs.YtdhogcppmnfekaaDoor.Jv
