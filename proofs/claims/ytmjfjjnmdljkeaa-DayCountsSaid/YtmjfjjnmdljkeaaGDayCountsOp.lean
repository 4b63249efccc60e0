/- What comes in as an argument of the law DayCounts, and the pure statement that is left of it. Conditions: none of its own. -/
import Derived.Test.YtmjfjjnmdljkeaaGDayCountsx0
import Derived.Test.YtmjfjjnmdljkeaaGDayCountsx1
import Derived.Test.YtmjfjjnmdljkeaaGDayCountsx2
import Derived.Test.YtmjfjjnmdljkeaaOpening
namespace Go.Proofs.Ytmjfjjnmdljkeaa.GDayCounts
open Go.RowKit Go.Proofs.YtmjfjjnmdljkeaaW.PrintWords Go.Proofs.YtmjfjjnmdljkeaaW.PrintLast Go.Proofs.YtmjfjjnmdljkeaaW.PrintMore Go.Proofs.Ytmjfjjnmdljkeaa.Opening
set_option linter.unusedVariables false
set_option maxRecDepth 100000
/-- What is left to be shown. -/
def mastlaw2_DayCounts.Pure : Prop := ∀ (x0 : Int) (x1 : Int) (x2 : Int), (Lit.int .i64 x0).wf = true → (Lit.int .i64 x1).wf = true → (Lit.int .i64 x2).wf = true → ∃ k, mastlaw2_DayCounts.f k x0 x1 x2 = some true
end Go.Proofs.Ytmjfjjnmdljkeaa.GDayCounts
