/- The pure statement that is left of the law SchemaFaults. Conditions: none. -/
import Derived.Test.YthmedjljckbidaaGreatDoorLSchemaFaultsF
namespace Go.Proofs.YthmedjljckbidaaGreatDoor.LSchemaFaults
open Go Go.Proofs.YthmedjljckbidaaGreatDoor.Lift
/-- What is left to be shown. -/
def Pure : Prop := ∀ (x0 : T_conf_Schema) (x1 : T_api_Value), (∃ D, good ctx D (.st 0) x0 ∧ bulk ctx D (.st 0) x0 ≤ 1048576) → (∃ D, good ctx D (.st 2) x1 ∧ bulk ctx D (.st 2) x1 ≤ 1048576) → ∃ k, mastlaw2_SchemaFaults.f k x0 x1 = some true
end Go.Proofs.YthmedjljckbidaaGreatDoor.LSchemaFaults
