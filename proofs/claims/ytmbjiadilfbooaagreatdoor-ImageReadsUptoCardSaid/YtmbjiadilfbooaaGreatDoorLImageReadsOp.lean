/- The pure statement that is left of the law ImageReads. Conditions: none. -/
import Derived.Test.YtmbjiadilfbooaaGreatDoorLImageReadsF
namespace Go.Proofs.YtmbjiadilfbooaaGreatDoor.LImageReads
open Go Go.Proofs.YtmbjiadilfbooaaGreatDoor.Lift
/-- What is left to be shown. -/
def Pure : Prop := ∀ (x0 : ByteArray), x0.size ≤ 1048576 → ∃ k, mastlaw2_ImageReads.f k x0 = some true
end Go.Proofs.YtmbjiadilfbooaaGreatDoor.LImageReads
