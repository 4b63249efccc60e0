/- The pure statement that is left of the law RuleForms. Conditions: none. -/
import Derived.Test.YtmjfjjnmdljkeaaLRuleFormsF
namespace Go.Proofs.Ytmjfjjnmdljkeaa.LRuleForms
open Go Go.Proofs.Ytmjfjjnmdljkeaa.Lift
/-- What is left to be shown. -/
def Pure : Prop := ∀ (x0 : T_lang_Rule) (x1 : Int), (∃ D, good ctx D (.st 0) x0 ∧ bulk ctx D (.st 0) x0 ≤ 1048576) → (Lit.int .i64 x1).wf = true → ∃ k, mastlaw2_RuleForms.f k x0 x1 = some true
end Go.Proofs.Ytmjfjjnmdljkeaa.LRuleForms
