/- The pure statement that is left of the law AssetLinks. Conditions: none. -/
import Derived.Test.YtdllocgdhdfgeaaLAssetLinksF
namespace Go.Proofs.Ytdllocgdhdfgeaa.LAssetLinks
open Go Go.Proofs.Ytdllocgdhdfgeaa.Lift
/-- What is left to be shown. -/
def Pure : Prop := ∀ (x0 : ByteArray), x0.size ≤ 140737488351232 → ∃ k, mastlaw2_AssetLinks.f k x0 = some true
end Go.Proofs.Ytdllocgdhdfgeaa.LAssetLinks
