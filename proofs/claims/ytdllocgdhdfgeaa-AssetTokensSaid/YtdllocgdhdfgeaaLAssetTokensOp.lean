/- The pure statement that is left of the law AssetTokens. Conditions: none. -/
import Derived.Test.YtdllocgdhdfgeaaLAssetTokensF
namespace Go.Proofs.Ytdllocgdhdfgeaa.LAssetTokens
open Go Go.Proofs.Ytdllocgdhdfgeaa.Lift
/-- What is left to be shown. -/
def Pure : Prop := ∀ (x0 : ByteArray) (x1 : Bool), x0.size ≤ 140737488351232 → ∃ k, mastlaw2_AssetTokens.f k x0 x1 = some true
end Go.Proofs.Ytdllocgdhdfgeaa.LAssetTokens
