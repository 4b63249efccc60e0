/- What the functions that a statement comes to compute, and that the machine's calls come to just that. Conditions: as each theorem states them. -/
import Derived.Test.YtmjfjjnmdljkeaaProg
import Derived.Below
import Derived.Deep.Draws
import Derived.Deep.AppendLies
import Derived.Maps.AppendAt
import Derived.OwnWalk
import Derived.Laws.BytesArg
import Derived.Laws.MakeOwn
import Derived.Laws.OwnMore
import Derived.Deep.OwnRows
import Derived.Tactics
import Derived.Lib.ConvBytes
import Derived.Laws.Slices
import Derived.WalkKit
import Derived.KernelRfl
import Derived.RowKit3
import Derived.Deep.LoopGhost
import Derived.Deep.QuietTactic
import Derived.BigQuiet
import Derived.WideLaws
import Derived.Deep.DeepCutAuto
import Derived.Deep.CutBlock
import Derived.Deep.RegionHeld3
import Derived.Laws.Rows
import Derived.Lib.AppendStr
import Derived.ArgAppend
import Derived.Laws.IdiomCopy
import Derived.OrdersHeld
import Derived.Laws.BitsLemmas
import Derived.RowKit
import Derived.Laws.Cover1
import Derived.Test.YtmjfjjnmdljkeaaShelf
import Derived.Test.YtmjfjjnmdljkeaaHand
import Derived.Test.YtmjfjjnmdljkeaaWWords
import Derived.Test.YtmjfjjnmdljkeaaWLast
import Derived.Test.YtmjfjjnmdljkeaaWTab
import Derived.Test.YtmjfjjnmdljkeaaWFour
import Derived.Test.YtmjfjjnmdljkeaaWQPut
import Derived.Test.YtmjfjjnmdljkeaaWApart
import Derived.Test.YtmjfjjnmdljkeaaWArr
import Derived.Test.YtmjfjjnmdljkeaaWZeros
import Derived.Test.YtmjfjjnmdljkeaaWFoot
import Derived.Test.YtmjfjjnmdljkeaaWKept
import Derived.Test.YtmjfjjnmdljkeaaWShare
import Derived.Test.YtmjfjjnmdljkeaaWN
import Derived.Test.YtmjfjjnmdljkeaaWFootNe
import Derived.Test.YtmjfjjnmdljkeaaWAt
import Derived.Test.YtmjfjjnmdljkeaaWEqStruct
import Derived.Test.YtmjfjjnmdljkeaaWRepsOne
import Derived.Test.YtmjfjjnmdljkeaaWInv
import Derived.Test.YtmjfjjnmdljkeaaWInvWords
import Derived.Test.YtmjfjjnmdljkeaaWGuard
import Derived.Test.YtmjfjjnmdljkeaaWNEv
import Derived.Test.YtmjfjjnmdljkeaaWMore
namespace Go.Proofs.Ytmjfjjnmdljkeaa.GAssetCodes
open Go.RowKit Go.Proofs.YtmjfjjnmdljkeaaW.PrintWords Go.Proofs.YtmjfjjnmdljkeaaW.PrintLast Go.Proofs.YtmjfjjnmdljkeaaW.PrintMore
attribute [local go_sem] max2_int min2_int max_two min_two max_three min_three max_four min_four   -- for this text's walks alone
set_option linter.unusedVariables false
set_option linter.unusedSimpArgs false



def errW : Option Int → Value
  | none => .nilIface
  | some c => .iface 0 (.int .i64 c)
theorem errW_none : errW none = .nilIface := rfl
theorem errW_some (c : Int) : errW (some c) = .iface 0 (.int .i64 c) := rfl

theorem info5 : (Try.prog.info? 5).map (fun i => (i.zero, i.size, i.bytes)) = some (some (.int .u8 0), 1, 1) := by kernel_rfl
-- the values' own types

end Go.Proofs.Ytmjfjjnmdljkeaa.GAssetCodes
