/- The pure statement that is left of the law SchemaChecks. Conditions: none. -/
import Derived.Test.YtibnepagledbjaaDoorLSchemaChecksF
namespace Go.Proofs.YtibnepagledbjaaDoor.LSchemaChecks
open Go Go.Proofs.YtibnepagledbjaaDoor.Lift
/-- What is left to be shown. -/
def Pure : Prop := ∀ (x0 : T_conf_Schema), (∃ D, good ctx D (.st 0) x0 ∧ bulk ctx D (.st 0) x0 ≤ 1048576) → ∃ k, mastlaw2_SchemaChecks.f k x0 = some true
end Go.Proofs.YtibnepagledbjaaDoor.LSchemaChecks
