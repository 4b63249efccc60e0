/- What comes in as an argument of the law AssetCodes, and the pure statement that is left of it. Conditions: none of its own. -/
import Derived.Test.YtmjfjjnmdljkeaaGAssetCodesx0
import Derived.Test.YtmjfjjnmdljkeaaGAssetCodesx1
import Derived.Test.YtmjfjjnmdljkeaaGAssetCodesx2
import Derived.Test.YtmjfjjnmdljkeaaGAssetCodesx3
import Derived.Test.YtmjfjjnmdljkeaaOpening
namespace Go.Proofs.Ytmjfjjnmdljkeaa.GAssetCodes
open Go.RowKit Go.Proofs.YtmjfjjnmdljkeaaW.PrintWords Go.Proofs.YtmjfjjnmdljkeaaW.PrintLast Go.Proofs.YtmjfjjnmdljkeaaW.PrintMore Go.Proofs.Ytmjfjjnmdljkeaa.Opening
set_option linter.unusedVariables false
set_option maxRecDepth 100000
/-- What is left to be shown. -/
def mastlaw2_AssetCodes.Pure : Prop := ∀ (x0 : ByteArray), x0.size ≤ 140737488351232 → ∃ k, mastlaw2_AssetCodes.f k x0 = some true
end Go.Proofs.Ytmjfjjnmdljkeaa.GAssetCodes
