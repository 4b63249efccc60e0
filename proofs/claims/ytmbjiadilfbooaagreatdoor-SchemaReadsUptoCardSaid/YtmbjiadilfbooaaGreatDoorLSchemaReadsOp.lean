/- The pure statement that is left of the law SchemaReads. Conditions: none. -/
import Derived.Test.YtmbjiadilfbooaaGreatDoorLSchemaReadsF
namespace Go.Proofs.YtmbjiadilfbooaaGreatDoor.LSchemaReads
open Go Go.Proofs.YtmbjiadilfbooaaGreatDoor.Lift
/-- What is left to be shown. -/
def Pure : Prop := ∀ (x0 : T_api_Value), (∃ D, good ctx D (.st 0) x0 ∧ bulk ctx D (.st 0) x0 ≤ 1048576) → ∃ k, mastlaw2_SchemaReads.f k x0 = some true
end Go.Proofs.YtmbjiadilfbooaaGreatDoor.LSchemaReads
