/-
  DERIVED. GIVEN WITH THE SEED: THE CARDS: each row of YtdffbjbpolhliaaDoorRows.lean that lists a variable, with what it lists TIED to the program's text (the seventh form; the later family's looks); each row that meets fmt, with fmt's text TOLD by the authors' own Lean function (tested against real Go, not proved from fmt's source: count such statements apart). THE CARD IS WHAT COUNTS. Prove the row's statement (the work); the ties are given (YtdffbjbpolhliaaDoorTie.lean); close each card by the builder's one call (the guide's Derived/Test/ToyasCard.lean, 'card_holds'). Laid BY PROGRAM, IN A SANDBOX (cutbox-door.mjs). By AI agents, Wed Nov 11 2026. No macro, syntax, notation, axiom, sorry.
-/
import Derived.Test.YtdffbjbpolhliaaDoorRows
import GoSem.ClaimSeven
namespace Go.Proofs.YtdffbjbpolhliaaDoor
namespace Rows

/-- THE TIED CARD OF 'mastlaw2.TreeHides'. -/
def treeHidesCard : Claim7 := { stood := { row := treeHidesRow, standIns := [], harness := (true, "d45aad8a30ade1e1e2c4be3efaac5a78ed0c7b476e4210059904b16a35e58653"), looks := false }, kinds := [], alts := [], laidByText := true, laidKinds := [.data, .pinned], laidTests := true, laidLooks := .later }
def TreeHidesCardSaid : Prop := Claim7.holds Tryd.pinned (.plain (OpenSpec.ofChange treeHidesSpec)) treeHidesCard

/-- THE TIED CARD OF 'mastlaw2.RuleWrites'. -/
def ruleWritesCard : Claim7 := { stood := { row := ruleWritesRow, standIns := [], harness := (true, "d45aad8a30ade1e1e2c4be3efaac5a78ed0c7b476e4210059904b16a35e58653"), looks := false }, kinds := [], alts := [], laidByText := true, laidKinds := [.data, .data, .data], laidTests := true, laidLooks := .later }
def RuleWritesCardSaid : Prop := Claim7.holds Tryd.pinned (.plain (OpenSpec.ofChange ruleWritesSpec)) ruleWritesCard

/-- THE TIED CARD OF 'mastlaw2.ListItems'. -/
def listItemsCard : Claim7 := { stood := { row := listItemsRow, standIns := [], harness := (true, "d45aad8a30ade1e1e2c4be3efaac5a78ed0c7b476e4210059904b16a35e58653"), looks := false }, kinds := [], alts := [], laidByText := true, laidKinds := [.data, .pinned], laidTests := true, laidLooks := .later }
def ListItemsCardSaid : Prop := Claim7.holds Tryd.pinned (.plain (OpenSpec.ofChange listItemsSpec)) listItemsCard

/-- THE TIED CARD OF 'mastlaw2.ConfChecks'. -/
def confChecksCard : Claim7 := { stood := { row := confChecksRow, standIns := [], harness := (true, "d45aad8a30ade1e1e2c4be3efaac5a78ed0c7b476e4210059904b16a35e58653"), looks := false }, kinds := [], alts := [], laidByText := true, laidKinds := [.data, .pinned], laidTests := true, laidLooks := .later }
def ConfChecksCardSaid : Prop := Claim7.holds Tryd.pinned (.plain (OpenSpec.ofChange confChecksSpec)) confChecksCard

/-- THE TIED CARD OF 'mastlaw2.CondChecks'. -/
def condChecksCard : Claim7 := { stood := { row := condChecksRow, standIns := [], harness := (true, "d45aad8a30ade1e1e2c4be3efaac5a78ed0c7b476e4210059904b16a35e58653"), looks := false }, kinds := [], alts := [], laidByText := true, laidKinds := [.data, .widerDeep, .pinned], laidTests := true, laidLooks := .later }
def CondChecksCardSaid : Prop := Claim7.holds Tryd.pinned (.plain (OpenSpec.ofChange condChecksSpec)) condChecksCard

/-- THE TIED CARD OF 'mastlaw2.TermPlaces'. -/
def termPlacesCard : Claim7 := { stood := { row := termPlacesRow, standIns := [], harness := (true, "d45aad8a30ade1e1e2c4be3efaac5a78ed0c7b476e4210059904b16a35e58653"), looks := false }, kinds := [], alts := [], laidByText := true, laidKinds := [.data, .data, .data, .data, .pinned], laidTests := true, laidLooks := .later }
def TermPlacesCardSaid : Prop := Claim7.holds Tryd.pinned (.plain (OpenSpec.ofChange termPlacesSpec)) termPlacesCard

/-- THE SECOND FORM's CARD OF 'mastlaw2.TreeHides'. -/
def treeHidesUptoCard : Claim7 := { stood := { row := treeHidesUptoRow, standIns := [], harness := (true, "d45aad8a30ade1e1e2c4be3efaac5a78ed0c7b476e4210059904b16a35e58653"), looks := false }, kinds := [], alts := [], laidByText := true, laidKinds := [.data, .pinned], laidTests := true, laidLooks := .later }
def TreeHidesUptoCardSaid : Prop := Claim7.holds Tryd.pinned (.plain (OpenSpec.upto treeHidesSpec)) treeHidesUptoCard

/-- THE SECOND FORM's CARD OF 'mastlaw2.RuleWrites'. -/
def ruleWritesUptoCard : Claim7 := { stood := { row := ruleWritesUptoRow, standIns := [], harness := (true, "d45aad8a30ade1e1e2c4be3efaac5a78ed0c7b476e4210059904b16a35e58653"), looks := false }, kinds := [], alts := [], laidByText := true, laidKinds := [.data, .data, .data], laidTests := true, laidLooks := .later }
def RuleWritesUptoCardSaid : Prop := Claim7.holds Tryd.pinned (.plain (OpenSpec.upto ruleWritesSpec)) ruleWritesUptoCard

/-- THE SECOND FORM's CARD OF 'mastlaw2.ListItems'. -/
def listItemsUptoCard : Claim7 := { stood := { row := listItemsUptoRow, standIns := [], harness := (true, "d45aad8a30ade1e1e2c4be3efaac5a78ed0c7b476e4210059904b16a35e58653"), looks := false }, kinds := [], alts := [], laidByText := true, laidKinds := [.data, .pinned], laidTests := true, laidLooks := .later }
def ListItemsUptoCardSaid : Prop := Claim7.holds Tryd.pinned (.plain (OpenSpec.upto listItemsSpec)) listItemsUptoCard

/-- THE SECOND FORM's CARD OF 'mastlaw2.ConfChecks'. -/
def confChecksUptoCard : Claim7 := { stood := { row := confChecksUptoRow, standIns := [], harness := (true, "d45aad8a30ade1e1e2c4be3efaac5a78ed0c7b476e4210059904b16a35e58653"), looks := false }, kinds := [], alts := [], laidByText := true, laidKinds := [.data, .pinned], laidTests := true, laidLooks := .later }
def ConfChecksUptoCardSaid : Prop := Claim7.holds Tryd.pinned (.plain (OpenSpec.upto confChecksSpec)) confChecksUptoCard

/-- THE SECOND FORM's CARD OF 'mastlaw2.CondChecks'. -/
def condChecksUptoCard : Claim7 := { stood := { row := condChecksUptoRow, standIns := [], harness := (true, "d45aad8a30ade1e1e2c4be3efaac5a78ed0c7b476e4210059904b16a35e58653"), looks := false }, kinds := [], alts := [], laidByText := true, laidKinds := [.data, .widerDeep, .pinned], laidTests := true, laidLooks := .later }
def CondChecksUptoCardSaid : Prop := Claim7.holds Tryd.pinned (.plain (OpenSpec.upto condChecksSpec)) condChecksUptoCard

/-- THE SECOND FORM's CARD OF 'mastlaw2.TermPlaces'. -/
def termPlacesUptoCard : Claim7 := { stood := { row := termPlacesUptoRow, standIns := [], harness := (true, "d45aad8a30ade1e1e2c4be3efaac5a78ed0c7b476e4210059904b16a35e58653"), looks := false }, kinds := [], alts := [], laidByText := true, laidKinds := [.data, .data, .data, .data, .pinned], laidTests := true, laidLooks := .later }
def TermPlacesUptoCardSaid : Prop := Claim7.holds Tryd.pinned (.plain (OpenSpec.upto termPlacesSpec)) termPlacesUptoCard
end Rows
end Go.Proofs.YtdffbjbpolhliaaDoor
