/- The pure statement that is left of the law ImageSources. Conditions: none. -/
import Derived.Test.YtdllocgdhdfgeaaDoorLImageSourcesF
namespace Go.Proofs.YtdllocgdhdfgeaaDoor.LImageSources
open Go Go.Proofs.YtdllocgdhdfgeaaDoor.Lift
/-- What is left to be shown. -/
def Pure : Prop := ∀ (x0 : ByteArray) (x1 : Int) (x2 : (List Int)), x0.size ≤ 1048576 → (Lit.int .i64 x1).wf = true → (∃ D, good ctx D (.sl (.int .i64)) x2 ∧ bulk ctx D (.sl (.int .i64)) x2 ≤ 1048576) → ∃ k, mastlaw2_ImageSources.f k x0 x1 x2 = some true
end Go.Proofs.YtdllocgdhdfgeaaDoor.LImageSources
