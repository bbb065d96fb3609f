/- Asks are the same by both; conditions: none. -/
import Derived.Test.YtfaofikhabccoaaGreatDoorOut20
namespace Go.Proofs.YtfaofikhabccoaaGreatDoor.Jv
open Go A
set_option linter.unusedSectionVars false
set_option linter.unusedVariables false
set_option linter.unusedSimpArgs false
theorem sipAsks_ok (y0 : By) (k0 : okT (.sl .u8) y0 ∧ bulkT (.sl .u8) y0 ≤ 1048576) : law20_SipAsks y0 = some true := by
  have hs := bulk_bytes k0.2
  have := asksM_len y0
  unfold law20_SipAsks
  rw [sip_Asks_eq (by omega), ref20_Asks_eq (by omega), alive_ok]
  simp only [Option.bind_some]
  rw [same_self (by omega)]
  rfl
end Go.Proofs.YtfaofikhabccoaaGreatDoor.Jv
