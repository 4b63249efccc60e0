/- The pure statement that is left of the law DayReads. Conditions: none. -/
import Derived.Test.YtibnepagledbjaaDoorLDayReadsF
namespace Go.Proofs.YtibnepagledbjaaDoor.LDayReads
open Go Go.Proofs.YtibnepagledbjaaDoor.Lift
/-- What is left to be shown. -/
def Pure : Prop := ∀ (x0 : ByteArray), x0.size ≤ 1048576 → ∃ k, mastlaw2_DayReads.f k x0 = some true
end Go.Proofs.YtibnepagledbjaaDoor.LDayReads
