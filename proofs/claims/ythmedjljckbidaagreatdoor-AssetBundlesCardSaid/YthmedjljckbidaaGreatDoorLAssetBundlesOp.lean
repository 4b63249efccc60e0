/- The pure statement that is left of the law AssetBundles. Conditions: none. -/
import Derived.Test.YthmedjljckbidaaGreatDoorLAssetBundlesF
namespace Go.Proofs.YthmedjljckbidaaGreatDoor.LAssetBundles
open Go Go.Proofs.YthmedjljckbidaaGreatDoor.Lift
/-- What is left to be shown. -/
def Pure : Prop := ∀ (x0 : (List T_api_File)), good ctx 2 (.sl (.st 0)) x0 → ∃ k, mastlaw2_AssetBundles.f k x0 = some true
end Go.Proofs.YthmedjljckbidaaGreatDoor.LAssetBundles
