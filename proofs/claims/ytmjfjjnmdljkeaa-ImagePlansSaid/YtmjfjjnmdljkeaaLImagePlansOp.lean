/- The pure statement that is left of the law ImagePlans. Conditions: none. -/
import Derived.Test.YtmjfjjnmdljkeaaLImagePlansF
namespace Go.Proofs.Ytmjfjjnmdljkeaa.LImagePlans
open Go Go.Proofs.Ytmjfjjnmdljkeaa.Lift
/-- What is left to be shown. -/
def Pure : Prop := ∀ (x0 : Int) (x1 : Int) (x2 : T_asset_Want), (Lit.int .i64 x0).wf = true → (Lit.int .i64 x1).wf = true → good ctx 1 (.st 0) x2 → ∃ k, mastlaw2_ImagePlans.f k x0 x1 x2 = some true
end Go.Proofs.Ytmjfjjnmdljkeaa.LImagePlans
