/- Bodies are the same by both; conditions: none. -/
import Derived.Test.YtfaofikhabccoaaGreatDoorOut20
namespace Go.Proofs.YtfaofikhabccoaaGreatDoor.Jv
open Go A
set_option linter.unusedSectionVars false
set_option linter.unusedVariables false
set_option linter.unusedSimpArgs false
theorem sipBodies_ok (y0 : By) (k0 : okT (.sl .u8) y0 ∧ bulkT (.sl .u8) y0 ≤ 1048576) : law20_SipBodies y0 = some true := by
  have hs := bulk_bytes k0.2
  unfold law20_SipBodies ref01_Same
  rw [sip_Body_eq (by omega), ref20_Body_eq (by omega), alive_ok]
  simp only [Option.bind_some]
  rw [bif_true (by simp), bif_true (by simp)]
end Go.Proofs.YtfaofikhabccoaaGreatDoor.Jv
