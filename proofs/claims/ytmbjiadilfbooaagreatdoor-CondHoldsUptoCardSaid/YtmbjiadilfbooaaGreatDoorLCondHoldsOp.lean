/- The pure statement that is left of the law CondHolds. Conditions: none. -/
import Derived.Test.YtmbjiadilfbooaaGreatDoorLCondHoldsF
namespace Go.Proofs.YtmbjiadilfbooaaGreatDoor.LCondHolds
open Go Go.Proofs.YtmbjiadilfbooaaGreatDoor.Lift
/-- What is left to be shown. -/
def Pure : Prop := ∀ (x0 : T_list_Cond) (x1 : T_api_Value), (∃ D, good ctx D (.st 0) x0 ∧ bulk ctx D (.st 0) x0 ≤ 1048576) → (∃ D, good ctx D (.st 1) x1 ∧ bulk ctx D (.st 1) x1 ≤ 1048576) → ∃ k, mastlaw2_CondHolds.f k x0 x1 = some true
end Go.Proofs.YtmbjiadilfbooaaGreatDoor.LCondHolds
