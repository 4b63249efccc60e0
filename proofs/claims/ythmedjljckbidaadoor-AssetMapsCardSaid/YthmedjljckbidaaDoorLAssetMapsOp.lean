/- The pure statement that is left of the law AssetMaps. Conditions: none. -/
import Derived.Test.YthmedjljckbidaaDoorLAssetMapsF
namespace Go.Proofs.YthmedjljckbidaaDoor.LAssetMaps
open Go Go.Proofs.YthmedjljckbidaaDoor.Lift
/-- What is left to be shown. -/
def Pure : Prop := ∀ (x0 : T_asset_Bundled), good ctx 2 (.st 0) x0 → ∃ k, mastlaw2_AssetMaps.f k x0 = some true
end Go.Proofs.YthmedjljckbidaaDoor.LAssetMaps
