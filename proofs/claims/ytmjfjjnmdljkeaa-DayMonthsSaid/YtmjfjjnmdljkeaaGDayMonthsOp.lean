/- What comes in as an argument of the law DayMonths, and the pure statement that is left of it. Conditions: none of its own. -/
import Derived.Test.YtmjfjjnmdljkeaaGDayMonthsx0
import Derived.Test.YtmjfjjnmdljkeaaGDayMonthsx1
import Derived.Test.YtmjfjjnmdljkeaaGDayMonthsx2
import Derived.Test.YtmjfjjnmdljkeaaGDayMonthsx3
import Derived.Test.YtmjfjjnmdljkeaaOpening
namespace Go.Proofs.Ytmjfjjnmdljkeaa.GDayMonths
open Go.RowKit Go.Proofs.YtmjfjjnmdljkeaaW.PrintWords Go.Proofs.YtmjfjjnmdljkeaaW.PrintLast Go.Proofs.YtmjfjjnmdljkeaaW.PrintMore Go.Proofs.Ytmjfjjnmdljkeaa.Opening
set_option linter.unusedVariables false
set_option maxRecDepth 100000
/-- What is left to be shown. -/
def mastlaw2_DayMonths.Pure : Prop := ∀ (x0 : Int) (x1 : Int), (Lit.int .i64 x0).wf = true → (Lit.int .i64 x1).wf = true → ∃ k, mastlaw2_DayMonths.f k x0 x1 = some true
end Go.Proofs.Ytmjfjjnmdljkeaa.GDayMonths
