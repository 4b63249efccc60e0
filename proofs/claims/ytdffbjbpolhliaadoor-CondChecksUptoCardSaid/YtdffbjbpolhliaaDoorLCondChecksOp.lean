/- The pure statement that is left of the law CondChecks. Conditions: none. -/
import Derived.Test.YtdffbjbpolhliaaDoorLCondChecksF
namespace Go.Proofs.YtdffbjbpolhliaaDoor.LCondChecks
open Go Go.Proofs.YtdffbjbpolhliaaDoor.Lift
/-- What is left to be shown. -/
def Pure : Prop := ∀ (x0 : T_list_Cond), (∃ D, good ctx D (.st 0) x0 ∧ bulk ctx D (.st 0) x0 ≤ 1048576) → ∃ k, mastlaw2_CondChecks.f k x0 = some true
end Go.Proofs.YtdffbjbpolhliaaDoor.LCondChecks
