/- The pure statement that is left of the law ConfGets. Conditions: none. -/
import Derived.Test.YtibnepagledbjaaGreatDoorLConfGetsF
namespace Go.Proofs.YtibnepagledbjaaGreatDoor.LConfGets
open Go Go.Proofs.YtibnepagledbjaaGreatDoor.Lift
/-- What is left to be shown. -/
def Pure : Prop := ∀ (x0 : T_api_Value) (x1 : ByteArray), (∃ D, good ctx D (.st 0) x0 ∧ bulk ctx D (.st 0) x0 ≤ 1048576) → x1.size ≤ 1048576 → ∃ k, mastlaw2_ConfGets.f k x0 x1 = some true
end Go.Proofs.YtibnepagledbjaaGreatDoor.LConfGets
