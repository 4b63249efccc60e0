/- The pure statement that is left of the law TreeHides. Conditions: none. -/
import Derived.Test.YtdffbjbpolhliaaDoorLTreeHidesF
namespace Go.Proofs.YtdffbjbpolhliaaDoor.LTreeHides
open Go Go.Proofs.YtdffbjbpolhliaaDoor.Lift
/-- What is left to be shown. -/
def Pure : Prop := ∀ (x0 : T_api_Value) (x1 : Int), (∃ D, good ctx D (.st 0) x0 ∧ bulk ctx D (.st 0) x0 ≤ 1048576) → (Lit.int .i64 x1).wf = true → ∃ k, mastlaw2_TreeHides.f k x0 x1 = some true
end Go.Proofs.YtdffbjbpolhliaaDoor.LTreeHides
