/- The pure statement that is left of the law ConfRoutes. Conditions: none. -/
import Derived.Test.YthmedjljckbidaaGreatDoorLConfRoutesF
namespace Go.Proofs.YthmedjljckbidaaGreatDoor.LConfRoutes
open Go Go.Proofs.YthmedjljckbidaaGreatDoor.Lift
/-- What is left to be shown. -/
def Pure : Prop := ∀ (x0 : T_api_Value), (∃ D, good ctx D (.st 0) x0 ∧ bulk ctx D (.st 0) x0 ≤ 1048576) → ∃ k, mastlaw2_ConfRoutes.f k x0 = some true
end Go.Proofs.YthmedjljckbidaaGreatDoor.LConfRoutes
