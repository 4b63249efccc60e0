/- The pure statement that is left of the law RuleWrites. Conditions: none. -/
import Derived.Test.YtdffbjbpolhliaaDoorLRuleWritesF
namespace Go.Proofs.YtdffbjbpolhliaaDoor.LRuleWrites
open Go Go.Proofs.YtdffbjbpolhliaaDoor.Lift
/-- What is left to be shown. -/
def Pure : Prop := ∀ (x0 : T_lang_Rule), (∃ D, good ctx D (.st 0) x0 ∧ bulk ctx D (.st 0) x0 ≤ 1048576) → ∃ k, mastlaw2_RuleWrites.f k x0 = some true
end Go.Proofs.YtdffbjbpolhliaaDoor.LRuleWrites
