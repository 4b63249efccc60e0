/- The pure statement that is left of the law ImageRenders. Conditions: none. -/
import Derived.Test.YtmjfjjnmdljkeaaLImageRendersF
namespace Go.Proofs.Ytmjfjjnmdljkeaa.LImageRenders
open Go Go.Proofs.Ytmjfjjnmdljkeaa.Lift
/-- What is left to be shown. -/
def Pure : Prop := ∀ (x0 : T_asset_Image) (x1 : T_asset_Cut), good ctx 2 (.st 0) x0 → good ctx 2 (.st 1) x1 → ∃ k, mastlaw2_ImageRenders.f k x0 x1 = some true
end Go.Proofs.Ytmjfjjnmdljkeaa.LImageRenders
