/- The pure statement that is left of the law AssetRelinks. Conditions: none. -/
import Derived.Test.YtdllocgdhdfgeaaLAssetRelinksF
namespace Go.Proofs.Ytdllocgdhdfgeaa.LAssetRelinks
open Go Go.Proofs.Ytdllocgdhdfgeaa.Lift
/-- What is left to be shown. -/
def Pure : Prop := ∀ (x0 : ByteArray) (x1 : (List T_asset_Name)), x0.size ≤ 140737488351232 → good ctx 2 (.sl (.st 0)) x1 → ∃ k, mastlaw2_AssetRelinks.f k x0 x1 = some true
end Go.Proofs.Ytdllocgdhdfgeaa.LAssetRelinks
