/- The pure statement that is left of the law TermPlaces. Conditions: none. -/
import Derived.Test.YtdffbjbpolhliaaDoorLTermPlacesF
namespace Go.Proofs.YtdffbjbpolhliaaDoor.LTermPlaces
open Go Go.Proofs.YtdffbjbpolhliaaDoor.Lift
/-- What is left to be shown. -/
def Pure : Prop := ∀ (x0 : ByteArray) (x1 : ByteArray) (x2 : Int), x0.size ≤ 1048576 → x1.size ≤ 1048576 → (Lit.int .i64 x2).wf = true → ∃ k, mastlaw2_TermPlaces.f k x0 x1 x2 = some true
end Go.Proofs.YtdffbjbpolhliaaDoor.LTermPlaces
