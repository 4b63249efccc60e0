/-
  NARROWER THAN 'FOR EVERY INPUT', by the rows' own cells (each row's printed sentence says how): ConfCompares: loops · RuleForms: loops.
  DERIVED. THE GIVEN ROWS OF THIS SEAT. 12 by the template 'for every input the law returns true; each argument reads behind the call as it read before'; 0 by the template 'total and deterministic' (their statements: YtmjfjjnmdljkeaaTotals.lean).
  GIVEN WITH THE SEED: the statements are not yours to turn. If you find one false, say at which input.
  Laid BY PROGRAM, IN A SANDBOX (cutbox-rows.mjs): the forced cells as the released guide's own fill.sh prints them over the translation 43490ae3e56aaec6… (all of the seat's roots in one cut). By AI agents, Wed Nov 11 2026. No macro, syntax, notation, axiom, sorry.
-/
import Derived.Test.YtmjfjjnmdljkeaaChecked
import GoSem.Claim
import GoSem.ClaimJoined
import GoSem.ClaimMapViews
import Derived.JoinedTies
import Derived.KernelRfl
namespace Go.Proofs.Ytmjfjjnmdljkeaa
/- THE CELL 'sum', in the pinned program and in every row, IS THE sha256 OF THE DUMP (.gsa) THAT YtmjfjjnmdljkeaaProg.lean LOADS. Nothing in Lean hashes anything: it is a label: what it is worth is what the hold of that sum in a sandbox is worth. -/
noncomputable def Try.pinned : Pinned := { name := "ytmjfjjnmdljkeaa", sum := "43490ae3e56aaec6a1354770ef2ae7438571061384786437c172379053eded78", checked := Try.checked }
namespace Rows
def none {H : Type} : Left H := { results := [], args := [] }

/-- 'mastlaw2.ListPages': WHATEVER THE INPUT: true; the input reads as it did. -/
def listPagesSpec : ChangeSpec := { name := "listPages", fn := fun _ => fun
  | [d1, d2] => { results := [.lit (.bool true)], args := [d1, d2] }
  | _ => none }
def listPagesRow : OpenClaim := { program := "ytmjfjjnmdljkeaa", sum := "43490ae3e56aaec6a1354770ef2ae7438571061384786437c172379053eded78", func := "masthead/mastlaw2.ListPages", spec := "listPages", plainKeys := false, apart := false }
def ListPagesSaid : Prop := listPagesRow.holds Try.pinned (OpenSpec.ofChange listPagesSpec)

/-- ITS FALSE NEIGHBOUR: 'it returns false'. Refute it at one input. -/
def listPagesWrong : ChangeSpec := { name := "listPages", fn := fun _ => fun
  | [d1, d2] => { results := [.lit (.bool false)], args := [d1, d2] }
  | _ => none }
def ListPagesWrongFalsely : Prop := listPagesRow.holds Try.pinned (OpenSpec.ofChange listPagesWrong)

/-- 'mastlaw2.ListWindows': WHATEVER THE INPUT: true; the input reads as it did. -/
def listWindowsSpec : ChangeSpec := { name := "listWindows", fn := fun _ => fun
  | [d1, d2, d3] => { results := [.lit (.bool true)], args := [d1, d2, d3] }
  | _ => none }
def listWindowsRow : OpenClaim := { program := "ytmjfjjnmdljkeaa", sum := "43490ae3e56aaec6a1354770ef2ae7438571061384786437c172379053eded78", func := "masthead/mastlaw2.ListWindows", spec := "listWindows", plainKeys := false, apart := false }
def ListWindowsSaid : Prop := listWindowsRow.holds Try.pinned (OpenSpec.ofChange listWindowsSpec)

/-- ITS FALSE NEIGHBOUR: 'it returns false'. Refute it at one input. -/
def listWindowsWrong : ChangeSpec := { name := "listWindows", fn := fun _ => fun
  | [d1, d2, d3] => { results := [.lit (.bool false)], args := [d1, d2, d3] }
  | _ => none }
def ListWindowsWrongFalsely : Prop := listWindowsRow.holds Try.pinned (OpenSpec.ofChange listWindowsWrong)

/-- 'mastlaw2.AssetFinds': WHATEVER THE INPUT: true; the input reads as it did. -/
def assetFindsSpec : ChangeSpec := { name := "assetFinds", fn := fun _ => fun
  | [d1, d2] => { results := [.lit (.bool true)], args := [d1, d2] }
  | _ => none }
def assetFindsRow : OpenClaim := { program := "ytmjfjjnmdljkeaa", sum := "43490ae3e56aaec6a1354770ef2ae7438571061384786437c172379053eded78", func := "masthead/mastlaw2.AssetFinds", spec := "assetFinds", plainKeys := false, apart := false }
def AssetFindsSaid : Prop := assetFindsRow.holds Try.pinned (OpenSpec.ofChange assetFindsSpec)

/-- ITS FALSE NEIGHBOUR: 'it returns false'. Refute it at one input. -/
def assetFindsWrong : ChangeSpec := { name := "assetFinds", fn := fun _ => fun
  | [d1, d2] => { results := [.lit (.bool false)], args := [d1, d2] }
  | _ => none }
def AssetFindsWrongFalsely : Prop := assetFindsRow.holds Try.pinned (OpenSpec.ofChange assetFindsWrong)

/-- 'mastlaw2.DayCounts': WHATEVER THE INPUT: true; the input reads as it did. -/
def dayCountsSpec : ChangeSpec := { name := "dayCounts", fn := fun _ => fun
  | [d1, d2, d3] => { results := [.lit (.bool true)], args := [d1, d2, d3] }
  | _ => none }
def dayCountsRow : OpenClaim := { program := "ytmjfjjnmdljkeaa", sum := "43490ae3e56aaec6a1354770ef2ae7438571061384786437c172379053eded78", func := "masthead/mastlaw2.DayCounts", spec := "dayCounts", plainKeys := false, apart := false }
def DayCountsSaid : Prop := dayCountsRow.holds Try.pinned (OpenSpec.ofChange dayCountsSpec)

/-- ITS FALSE NEIGHBOUR: 'it returns false'. Refute it at one input. -/
def dayCountsWrong : ChangeSpec := { name := "dayCounts", fn := fun _ => fun
  | [d1, d2, d3] => { results := [.lit (.bool false)], args := [d1, d2, d3] }
  | _ => none }
def DayCountsWrongFalsely : Prop := dayCountsRow.holds Try.pinned (OpenSpec.ofChange dayCountsWrong)

/-- 'mastlaw2.ImagePlans': WHATEVER THE INPUT: true; the input reads as it did. -/
def imagePlansSpec : ChangeSpec := { name := "imagePlans", fn := fun _ => fun
  | [d1, d2, d3] => { results := [.lit (.bool true)], args := [d1, d2, d3] }
  | _ => none }
def imagePlansRow : OpenClaim := { program := "ytmjfjjnmdljkeaa", sum := "43490ae3e56aaec6a1354770ef2ae7438571061384786437c172379053eded78", func := "masthead/mastlaw2.ImagePlans", spec := "imagePlans", unfollowed := true, recurses := true, plainKeys := false, apart := false }
def ImagePlansSaid : Prop := imagePlansRow.holds Try.pinned (OpenSpec.ofChange imagePlansSpec)

/-- ITS FALSE NEIGHBOUR: 'it returns false'. Refute it at one input. -/
def imagePlansWrong : ChangeSpec := { name := "imagePlans", fn := fun _ => fun
  | [d1, d2, d3] => { results := [.lit (.bool false)], args := [d1, d2, d3] }
  | _ => none }
def ImagePlansWrongFalsely : Prop := imagePlansRow.holds Try.pinned (OpenSpec.ofChange imagePlansWrong)

/-- 'mastlaw2.TermClouds': WHATEVER THE INPUT: true; the input reads as it did. -/
def termCloudsSpec : ChangeSpec := { name := "termClouds", fn := fun _ => fun
  | [d1, d2] => { results := [.lit (.bool true)], args := [d1, d2] }
  | _ => none }
def termCloudsRow : OpenClaim := { program := "ytmjfjjnmdljkeaa", sum := "43490ae3e56aaec6a1354770ef2ae7438571061384786437c172379053eded78", func := "masthead/mastlaw2.TermClouds", spec := "termClouds", plainKeys := false, apart := false }
def TermCloudsSaid : Prop := termCloudsRow.holds Try.pinned (OpenSpec.ofChange termCloudsSpec)

/-- ITS FALSE NEIGHBOUR: 'it returns false'. Refute it at one input. -/
def termCloudsWrong : ChangeSpec := { name := "termClouds", fn := fun _ => fun
  | [d1, d2] => { results := [.lit (.bool false)], args := [d1, d2] }
  | _ => none }
def TermCloudsWrongFalsely : Prop := termCloudsRow.holds Try.pinned (OpenSpec.ofChange termCloudsWrong)

/-- 'mastlaw2.DayMonths': WHATEVER THE INPUT: true; the input reads as it did. -/
def dayMonthsSpec : ChangeSpec := { name := "dayMonths", fn := fun _ => fun
  | [d1, d2] => { results := [.lit (.bool true)], args := [d1, d2] }
  | _ => none }
def dayMonthsRow : OpenClaim := { program := "ytmjfjjnmdljkeaa", sum := "43490ae3e56aaec6a1354770ef2ae7438571061384786437c172379053eded78", func := "masthead/mastlaw2.DayMonths", spec := "dayMonths", plainKeys := false, apart := false }
def DayMonthsSaid : Prop := dayMonthsRow.holds Try.pinned (OpenSpec.ofChange dayMonthsSpec)

/-- ITS FALSE NEIGHBOUR: 'it returns false'. Refute it at one input. -/
def dayMonthsWrong : ChangeSpec := { name := "dayMonths", fn := fun _ => fun
  | [d1, d2] => { results := [.lit (.bool false)], args := [d1, d2] }
  | _ => none }
def DayMonthsWrongFalsely : Prop := dayMonthsRow.holds Try.pinned (OpenSpec.ofChange dayMonthsWrong)

/-- 'mastlaw2.DayDates': WHATEVER THE INPUT: true; the input reads as it did. -/
def dayDatesSpec : ChangeSpec := { name := "dayDates", fn := fun _ => fun
  | [d] => { results := [.lit (.bool true)], args := [d] }
  | _ => none }
def dayDatesRow : OpenClaim := { program := "ytmjfjjnmdljkeaa", sum := "43490ae3e56aaec6a1354770ef2ae7438571061384786437c172379053eded78", func := "masthead/mastlaw2.DayDates", spec := "dayDates", plainKeys := false, apart := false }
def DayDatesSaid : Prop := dayDatesRow.holds Try.pinned (OpenSpec.ofChange dayDatesSpec)

/-- ITS FALSE NEIGHBOUR: 'it returns false'. Refute it at one input. -/
def dayDatesWrong : ChangeSpec := { name := "dayDates", fn := fun _ => fun
  | [d] => { results := [.lit (.bool false)], args := [d] }
  | _ => none }
def DayDatesWrongFalsely : Prop := dayDatesRow.holds Try.pinned (OpenSpec.ofChange dayDatesWrong)

/-- 'mastlaw2.AssetCodes': WHATEVER THE INPUT: true; the input reads as it did. -/
def assetCodesSpec : ChangeSpec := { name := "assetCodes", fn := fun _ => fun
  | [d] => { results := [.lit (.bool true)], args := [d] }
  | _ => none }
def assetCodesRow : OpenClaim := { program := "ytmjfjjnmdljkeaa", sum := "43490ae3e56aaec6a1354770ef2ae7438571061384786437c172379053eded78", func := "masthead/mastlaw2.AssetCodes", spec := "assetCodes", inPlace := ["internal/bytealg.IndexByteString"], plainKeys := false, apart := false }
def AssetCodesSaid : Prop := assetCodesRow.holds Try.pinned (OpenSpec.ofChange assetCodesSpec)

/-- ITS FALSE NEIGHBOUR: 'it returns false'. Refute it at one input. -/
def assetCodesWrong : ChangeSpec := { name := "assetCodes", fn := fun _ => fun
  | [d] => { results := [.lit (.bool false)], args := [d] }
  | _ => none }
def AssetCodesWrongFalsely : Prop := assetCodesRow.holds Try.pinned (OpenSpec.ofChange assetCodesWrong)

/-- 'mastlaw2.ImageRenders': WHATEVER THE INPUT: true; the input reads as it did. -/
def imageRendersSpec : ChangeSpec := { name := "imageRenders", fn := fun _ => fun
  | [d1, d2] => { results := [.lit (.bool true)], args := [d1, d2] }
  | _ => none }
def imageRendersRow : OpenClaim := { program := "ytmjfjjnmdljkeaa", sum := "43490ae3e56aaec6a1354770ef2ae7438571061384786437c172379053eded78", func := "masthead/mastlaw2.ImageRenders", spec := "imageRenders", unfollowed := true, recurses := true, plainKeys := false, apart := false }
def ImageRendersSaid : Prop := imageRendersRow.holds Try.pinned (OpenSpec.ofChange imageRendersSpec)

/-- ITS FALSE NEIGHBOUR: 'it returns false'. Refute it at one input. -/
def imageRendersWrong : ChangeSpec := { name := "imageRenders", fn := fun _ => fun
  | [d1, d2] => { results := [.lit (.bool false)], args := [d1, d2] }
  | _ => none }
def ImageRendersWrongFalsely : Prop := imageRendersRow.holds Try.pinned (OpenSpec.ofChange imageRendersWrong)

/-- 'mastlaw2.ConfCompares': WHATEVER THE INPUT: true; the input reads as it did. -/
def confComparesSpec : ChangeSpec := { name := "confCompares", fn := fun _ => fun
  | [d1, d2] => { results := [.lit (.bool true)], args := [d1, d2] }
  | _ => none }
def confComparesRow : OpenClaim := { program := "ytmjfjjnmdljkeaa", sum := "43490ae3e56aaec6a1354770ef2ae7438571061384786437c172379053eded78", func := "masthead/mastlaw2.ConfCompares", spec := "confCompares", inPlace := ["internal/bytealg.abigen_runtime_cmpstring"], recurses := true, loops := true, plainKeys := false, apart := false }
def ConfComparesSaid : Prop := confComparesRow.holds Try.pinned (OpenSpec.ofChange confComparesSpec)

/-- ITS FALSE NEIGHBOUR: 'it returns false'. Refute it at one input. -/
def confComparesWrong : ChangeSpec := { name := "confCompares", fn := fun _ => fun
  | [d1, d2] => { results := [.lit (.bool false)], args := [d1, d2] }
  | _ => none }
def ConfComparesWrongFalsely : Prop := confComparesRow.holds Try.pinned (OpenSpec.ofChange confComparesWrong)

/-- 'mastlaw2.RuleForms': WHATEVER THE INPUT: true; the input reads as it did. -/
def ruleFormsSpec : ChangeSpec := { name := "ruleForms", fn := fun _ => fun
  | [d1, d2] => { results := [.lit (.bool true)], args := [d1, d2] }
  | _ => none }
def ruleFormsRow : OpenClaim := { program := "ytmjfjjnmdljkeaa", sum := "43490ae3e56aaec6a1354770ef2ae7438571061384786437c172379053eded78", func := "masthead/mastlaw2.RuleForms", spec := "ruleForms", unfollowed := true, recurses := true, loops := true, plainKeys := false, apart := false }
def RuleFormsSaid : Prop := ruleFormsRow.holds Try.pinned (OpenSpec.ofChange ruleFormsSpec)

/-- ITS FALSE NEIGHBOUR: 'it returns false'. Refute it at one input. -/
def ruleFormsWrong : ChangeSpec := { name := "ruleForms", fn := fun _ => fun
  | [d1, d2] => { results := [.lit (.bool false)], args := [d1, d2] }
  | _ => none }
def RuleFormsWrongFalsely : Prop := ruleFormsRow.holds Try.pinned (OpenSpec.ofChange ruleFormsWrong)

/- THE SECOND FORM. 'bulk': how many values and letters a reading holds, each counted each time it is reached (what is shared counts as often as it is met; a slice's spare places count too). A statement '..UptoSaid' is the law's where the arguments, and the package variables that the reading takes, are together of bulk at most 1048576: NARROWER than '..Said'. Prove '..Said' where nothing that the law and all that it calls make is longer than what came in: it says more and counts as full. Else prove '..UptoSaid'. A law counts once. -/
mutual
def uptoBulk {H : Type} : DataW H → Nat
  | .lit (.string bytes) => bytes.length + 1
  | .lit _ => 1
  | .nil => 1
  | .ptr d => uptoBulk d + 1
  | .slice elems spare => uptoBulkAll elems + uptoBulkAll spare + 1
  | .agg parts => uptoBulkAll parts + 1
  | .iface _ d => uptoBulk d + 1
  | .map entries => uptoBulkEntries entries + 1
  | .held _ => 1
def uptoBulkAll {H : Type} : List (DataW H) → Nat
  | [] => 0
  | d :: r => uptoBulk d + uptoBulkAll r
def uptoBulkEntries {H : Type} : List (Lit × DataW H) → Nat
  | [] => 0
  | x :: r => uptoBulkEntry x + uptoBulkEntries r
def uptoBulkEntry {H : Type} : Lit × DataW H → Nat
  | (.string bytes, d) => bytes.length + uptoBulk d + 1
  | (_, d) => uptoBulk d + 1
 end
def uptoSmall : (H : Type) → List (DataW H) → Bool := fun _ ds => decide (uptoBulkAll ds ≤ 1048576)
def OpenSpec.upto (s : _root_.Go.ChangeSpec) : _root_.Go.OpenSpec := { _root_.Go.OpenSpec.ofChange s with cond := some uptoSmall }

/-- 'mastlaw2.ListPages', WHERE WHAT IT READS IS OF BULK AT MOST 1048576: true; the input reads as it did. -/
def listPagesUptoRow : OpenClaim := { program := "ytmjfjjnmdljkeaa", sum := "43490ae3e56aaec6a1354770ef2ae7438571061384786437c172379053eded78", func := "masthead/mastlaw2.ListPages", spec := "listPages", plainKeys := false, apart := false, narrowed := true }
def ListPagesUptoSaid : Prop := listPagesUptoRow.holds Try.pinned (OpenSpec.upto listPagesSpec)

/-- 'mastlaw2.ListWindows', WHERE WHAT IT READS IS OF BULK AT MOST 1048576: true; the input reads as it did. -/
def listWindowsUptoRow : OpenClaim := { program := "ytmjfjjnmdljkeaa", sum := "43490ae3e56aaec6a1354770ef2ae7438571061384786437c172379053eded78", func := "masthead/mastlaw2.ListWindows", spec := "listWindows", plainKeys := false, apart := false, narrowed := true }
def ListWindowsUptoSaid : Prop := listWindowsUptoRow.holds Try.pinned (OpenSpec.upto listWindowsSpec)

/-- 'mastlaw2.AssetFinds', WHERE WHAT IT READS IS OF BULK AT MOST 1048576: true; the input reads as it did. -/
def assetFindsUptoRow : OpenClaim := { program := "ytmjfjjnmdljkeaa", sum := "43490ae3e56aaec6a1354770ef2ae7438571061384786437c172379053eded78", func := "masthead/mastlaw2.AssetFinds", spec := "assetFinds", plainKeys := false, apart := false, narrowed := true }
def AssetFindsUptoSaid : Prop := assetFindsUptoRow.holds Try.pinned (OpenSpec.upto assetFindsSpec)

/-- 'mastlaw2.DayCounts', WHERE WHAT IT READS IS OF BULK AT MOST 1048576: true; the input reads as it did. -/
def dayCountsUptoRow : OpenClaim := { program := "ytmjfjjnmdljkeaa", sum := "43490ae3e56aaec6a1354770ef2ae7438571061384786437c172379053eded78", func := "masthead/mastlaw2.DayCounts", spec := "dayCounts", plainKeys := false, apart := false, narrowed := true }
def DayCountsUptoSaid : Prop := dayCountsUptoRow.holds Try.pinned (OpenSpec.upto dayCountsSpec)

/-- 'mastlaw2.ImagePlans', WHERE WHAT IT READS IS OF BULK AT MOST 1048576: true; the input reads as it did. -/
def imagePlansUptoRow : OpenClaim := { program := "ytmjfjjnmdljkeaa", sum := "43490ae3e56aaec6a1354770ef2ae7438571061384786437c172379053eded78", func := "masthead/mastlaw2.ImagePlans", spec := "imagePlans", unfollowed := true, recurses := true, plainKeys := false, apart := false, narrowed := true }
def ImagePlansUptoSaid : Prop := imagePlansUptoRow.holds Try.pinned (OpenSpec.upto imagePlansSpec)

/-- 'mastlaw2.TermClouds', WHERE WHAT IT READS IS OF BULK AT MOST 1048576: true; the input reads as it did. -/
def termCloudsUptoRow : OpenClaim := { program := "ytmjfjjnmdljkeaa", sum := "43490ae3e56aaec6a1354770ef2ae7438571061384786437c172379053eded78", func := "masthead/mastlaw2.TermClouds", spec := "termClouds", plainKeys := false, apart := false, narrowed := true }
def TermCloudsUptoSaid : Prop := termCloudsUptoRow.holds Try.pinned (OpenSpec.upto termCloudsSpec)

/-- 'mastlaw2.DayMonths', WHERE WHAT IT READS IS OF BULK AT MOST 1048576: true; the input reads as it did. -/
def dayMonthsUptoRow : OpenClaim := { program := "ytmjfjjnmdljkeaa", sum := "43490ae3e56aaec6a1354770ef2ae7438571061384786437c172379053eded78", func := "masthead/mastlaw2.DayMonths", spec := "dayMonths", plainKeys := false, apart := false, narrowed := true }
def DayMonthsUptoSaid : Prop := dayMonthsUptoRow.holds Try.pinned (OpenSpec.upto dayMonthsSpec)

/-- 'mastlaw2.DayDates', WHERE WHAT IT READS IS OF BULK AT MOST 1048576: true; the input reads as it did. -/
def dayDatesUptoRow : OpenClaim := { program := "ytmjfjjnmdljkeaa", sum := "43490ae3e56aaec6a1354770ef2ae7438571061384786437c172379053eded78", func := "masthead/mastlaw2.DayDates", spec := "dayDates", plainKeys := false, apart := false, narrowed := true }
def DayDatesUptoSaid : Prop := dayDatesUptoRow.holds Try.pinned (OpenSpec.upto dayDatesSpec)

/-- 'mastlaw2.AssetCodes', WHERE WHAT IT READS IS OF BULK AT MOST 1048576: true; the input reads as it did. -/
def assetCodesUptoRow : OpenClaim := { program := "ytmjfjjnmdljkeaa", sum := "43490ae3e56aaec6a1354770ef2ae7438571061384786437c172379053eded78", func := "masthead/mastlaw2.AssetCodes", spec := "assetCodes", inPlace := ["internal/bytealg.IndexByteString"], plainKeys := false, apart := false, narrowed := true }
def AssetCodesUptoSaid : Prop := assetCodesUptoRow.holds Try.pinned (OpenSpec.upto assetCodesSpec)

/-- 'mastlaw2.ImageRenders', WHERE WHAT IT READS IS OF BULK AT MOST 1048576: true; the input reads as it did. -/
def imageRendersUptoRow : OpenClaim := { program := "ytmjfjjnmdljkeaa", sum := "43490ae3e56aaec6a1354770ef2ae7438571061384786437c172379053eded78", func := "masthead/mastlaw2.ImageRenders", spec := "imageRenders", unfollowed := true, recurses := true, plainKeys := false, apart := false, narrowed := true }
def ImageRendersUptoSaid : Prop := imageRendersUptoRow.holds Try.pinned (OpenSpec.upto imageRendersSpec)

/-- 'mastlaw2.ConfCompares', WHERE WHAT IT READS IS OF BULK AT MOST 1048576: true; the input reads as it did. -/
def confComparesUptoRow : OpenClaim := { program := "ytmjfjjnmdljkeaa", sum := "43490ae3e56aaec6a1354770ef2ae7438571061384786437c172379053eded78", func := "masthead/mastlaw2.ConfCompares", spec := "confCompares", inPlace := ["internal/bytealg.abigen_runtime_cmpstring"], recurses := true, loops := true, plainKeys := false, apart := false, narrowed := true }
def ConfComparesUptoSaid : Prop := confComparesUptoRow.holds Try.pinned (OpenSpec.upto confComparesSpec)

/-- 'mastlaw2.RuleForms', WHERE WHAT IT READS IS OF BULK AT MOST 1048576: true; the input reads as it did. -/
def ruleFormsUptoRow : OpenClaim := { program := "ytmjfjjnmdljkeaa", sum := "43490ae3e56aaec6a1354770ef2ae7438571061384786437c172379053eded78", func := "masthead/mastlaw2.RuleForms", spec := "ruleForms", unfollowed := true, recurses := true, loops := true, plainKeys := false, apart := false, narrowed := true }
def RuleFormsUptoSaid : Prop := ruleFormsUptoRow.holds Try.pinned (OpenSpec.upto ruleFormsSpec)

end Rows
end Go.Proofs.Ytmjfjjnmdljkeaa
