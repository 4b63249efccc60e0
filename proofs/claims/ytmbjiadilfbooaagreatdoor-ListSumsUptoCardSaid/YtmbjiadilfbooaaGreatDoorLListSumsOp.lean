/- The pure statement that is left of the law ListSums. Conditions: none. -/
import Derived.Test.YtmbjiadilfbooaaGreatDoorLListSumsF
namespace Go.Proofs.YtmbjiadilfbooaaGreatDoor.LListSums
open Go Go.Proofs.YtmbjiadilfbooaaGreatDoor.Lift
/-- What is left to be shown. -/
def Pure : Prop := ∀ (x0 : (List T_api_Value)) (x1 : ByteArray), (∃ D, good ctx D (.sl (.st 0)) x0 ∧ bulk ctx D (.sl (.st 0)) x0 ≤ 1048576) → x1.size ≤ 1048576 → ∃ k, mastlaw2_ListSums.f k x0 x1 = some true
end Go.Proofs.YtmbjiadilfbooaaGreatDoor.LListSums
