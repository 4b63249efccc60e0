/- The pure statement that is left of the law ListItems. Conditions: none. -/
import Derived.Test.YtdffbjbpolhliaaDoorLListItemsF
namespace Go.Proofs.YtdffbjbpolhliaaDoor.LListItems
open Go Go.Proofs.YtdffbjbpolhliaaDoor.Lift
/-- What is left to be shown. -/
def Pure : Prop := ∀ (x0 : T_api_Value), (∃ D, good ctx D (.st 0) x0 ∧ bulk ctx D (.st 0) x0 ≤ 1048576) → ∃ k, mastlaw2_ListItems.f k x0 = some true
end Go.Proofs.YtdffbjbpolhliaaDoor.LListItems
