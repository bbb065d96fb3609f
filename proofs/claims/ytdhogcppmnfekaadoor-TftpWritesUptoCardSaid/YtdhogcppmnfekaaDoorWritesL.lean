/- TftpWrites, plainly; conditions: none. -/
import Derived.Test.YtdhogcppmnfekaaDoorTftp4
namespace Go.Proofs.YtdhogcppmnfekaaDoor.Jv
open Go
theorem tftpWrites_ok (y0 : T (.pair .bool (.pair .str (.pair .str (.sl (.pair .str .str)))))) (k0 : okT (.pair .bool (.pair .str (.pair .str (.sl (.pair .str .str))))) y0 ∧ bulkT (.pair .bool (.pair .str (.pair .str (.sl (.pair .str .str))))) y0 ≤ 1048576) : law19_TftpWrites y0 = some true := by
  have h := bulk_rq k0.2
  have hl : (y0 : Rq).2.2.2.length ≤ sizeR y0 := by
    have := sizeO_len (y0 : Rq).2.2.2
    unfold sizeR
    omega
  unfold law19_TftpWrites
  rw [theirs_eq (r := y0) (by omega)]
  simp only [Option.bind_some]
  rw [tbuild_eq (r := y0) (by omega), rbuild_eq (r := y0) (by omega)]
  unfold ref01_Same
  cases mkRq y0 with
  | none => rfl
  | some b => simp only [Option.bind_some, beq_self_eq_true, cond_true]; rfl
end Go.Proofs.YtdhogcppmnfekaaDoor.Jv
