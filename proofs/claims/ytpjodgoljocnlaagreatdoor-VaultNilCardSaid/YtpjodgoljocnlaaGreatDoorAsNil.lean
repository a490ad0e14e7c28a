/- errors.As of no error; fault.New of a code that is OK. -/
import Derived.Test.YtpjodgoljocnlaaGreatDoorFault
namespace Go.Proofs.YtpjodgoljocnlaaGreatDoor
open Go Go.RowKit
set_option maxRecDepth 100000 in
set_option maxHeartbeats 1000000 in
theorem f37_nil (t : Value) (w : World) : Calls Tryz.prog 37 #[.nilIface, t] w fun e w' => e = .returned (.bool false) ∧ w' = w := by
  go_enter Tryz.func37, Tryz.ntmps37
  go_wp2
  go_ret
  exact ⟨rfl, rfl⟩
end Go.Proofs.YtpjodgoljocnlaaGreatDoor
