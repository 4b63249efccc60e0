/- What comes in as an argument of the law DayDates, and the pure statement that is left of it. Conditions: none of its own. -/
import Derived.Test.YtmjfjjnmdljkeaaGDayDatesx0
import Derived.Test.YtmjfjjnmdljkeaaGDayDatesx1
import Derived.Test.YtmjfjjnmdljkeaaGDayDatesx2
import Derived.Test.YtmjfjjnmdljkeaaOpening
namespace Go.Proofs.Ytmjfjjnmdljkeaa.GDayDates
open Go.RowKit Go.Proofs.YtmjfjjnmdljkeaaW.PrintWords Go.Proofs.YtmjfjjnmdljkeaaW.PrintLast Go.Proofs.YtmjfjjnmdljkeaaW.PrintMore Go.Proofs.Ytmjfjjnmdljkeaa.Opening
set_option linter.unusedVariables false
set_option maxRecDepth 100000
/-- What is left to be shown. -/
def mastlaw2_DayDates.Pure : Prop := ∀ (x0 : Int), (Lit.int .i64 x0).wf = true → ∃ k, mastlaw2_DayDates.f k x0 = some true
end Go.Proofs.Ytmjfjjnmdljkeaa.GDayDates
