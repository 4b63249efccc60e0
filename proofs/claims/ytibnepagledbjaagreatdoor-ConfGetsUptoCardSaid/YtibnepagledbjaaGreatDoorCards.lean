/-
  DERIVED. GIVEN WITH THE SEED: THE CARDS: each row of YtibnepagledbjaaGreatDoorRows.lean that lists a variable, with what it lists TIED to the program's text (the seventh form; the later family's looks); each row that meets fmt, with fmt's text TOLD by the authors' own Lean function (tested against real Go, not proved from fmt's source: count such statements apart). THE CARD IS WHAT COUNTS. Prove the row's statement (the work); the ties are given (YtibnepagledbjaaGreatDoorTie.lean); close each card by the builder's one call (the guide's Derived/Test/ToyasCard.lean, 'card_holds'). Laid BY PROGRAM, IN A SANDBOX (cutbox-door.mjs). By AI agents, Wed Nov 11 2026. No macro, syntax, notation, axiom, sorry.
-/
import Derived.Test.YtibnepagledbjaaGreatDoorRows
import GoSem.ClaimSeven
namespace Go.Proofs.YtibnepagledbjaaGreatDoor
namespace Rows

/-- THE TIED CARD OF 'mastlaw2.ConfRoutes'. -/
def confRoutesCard : Claim7 := { stood := { row := confRoutesRow, standIns := [], harness := (true, "5f5fc2076ca3af012cc792eada01a4c0e2482bec732f39c9c63de4aa159c44b2"), looks := true }, kinds := [], alts := [], laidByText := true, laidKinds := [.data, .data, .data, .data, .pinned], laidTests := true, laidLooks := .later }
def ConfRoutesCardSaid : Prop := Claim7.holds Tryz.pinned (.plain (OpenSpec.ofChange confRoutesSpec)) confRoutesCard

/-- THE TIED CARD OF 'mastlaw2.SiteChecks'. -/
def siteChecksCard : Claim7 := { stood := { row := siteChecksRow, standIns := [], harness := (true, "5f5fc2076ca3af012cc792eada01a4c0e2482bec732f39c9c63de4aa159c44b2"), looks := true }, kinds := [], alts := [], laidByText := true, laidKinds := [.data, .pinned], laidTests := true, laidLooks := .later }
def SiteChecksCardSaid : Prop := Claim7.holds Tryz.pinned (.plain (OpenSpec.ofChange siteChecksSpec)) siteChecksCard

/-- THE TIED CARD OF 'mastlaw2.SiteFinds'. -/
def siteFindsCard : Claim7 := { stood := { row := siteFindsRow, standIns := [], harness := (true, "5f5fc2076ca3af012cc792eada01a4c0e2482bec732f39c9c63de4aa159c44b2"), looks := true }, kinds := [], alts := [], laidByText := true, laidKinds := [.data, .pinned], laidTests := true, laidLooks := .later }
def SiteFindsCardSaid : Prop := Claim7.holds Tryz.pinned (.plain (OpenSpec.ofChange siteFindsSpec)) siteFindsCard

/-- THE TIED CARD OF 'mastlaw2.TreePaths'. -/
def treePathsCard : Claim7 := { stood := { row := treePathsRow, standIns := [], harness := (true, "5f5fc2076ca3af012cc792eada01a4c0e2482bec732f39c9c63de4aa159c44b2"), looks := true }, kinds := [], alts := [], laidByText := true, laidKinds := [.data, .pinned], laidTests := true, laidLooks := .later }
def TreePathsCardSaid : Prop := Claim7.holds Tryz.pinned (.plain (OpenSpec.ofChange treePathsSpec)) treePathsCard

/-- THE TIED CARD OF 'mastlaw2.TreeSources'. -/
def treeSourcesCard : Claim7 := { stood := { row := treeSourcesRow, standIns := [], harness := (true, "5f5fc2076ca3af012cc792eada01a4c0e2482bec732f39c9c63de4aa159c44b2"), looks := true }, kinds := [], alts := [], laidByText := true, laidKinds := [.data, .mapped, .pinned], laidTests := true, laidLooks := .later }
def TreeSourcesCardSaid : Prop := Claim7.holds Tryz.pinned (.plain (OpenSpec.ofChange treeSourcesSpec)) treeSourcesCard

/-- THE TIED CARD OF 'mastlaw2.ConfGets'. -/
def confGetsCard : Claim7 := { stood := { row := confGetsRow, standIns := [], harness := (true, "5f5fc2076ca3af012cc792eada01a4c0e2482bec732f39c9c63de4aa159c44b2"), looks := true }, kinds := [], alts := [], laidByText := true, laidKinds := [.data, .data, .data, .data, .sentinel, .sentinel, .pinned], laidTests := true, laidLooks := .later }
def ConfGetsCardSaid : Prop := Claim7.holds Tryz.pinned (.plain (OpenSpec.ofChange confGetsSpec)) confGetsCard

/-- THE TIED CARD OF 'mastlaw2.ConfRemoves'. -/
def confRemovesCard : Claim7 := { stood := { row := confRemovesRow, standIns := [], harness := (true, "5f5fc2076ca3af012cc792eada01a4c0e2482bec732f39c9c63de4aa159c44b2"), looks := true }, kinds := [], alts := [], laidByText := true, laidKinds := [.data, .data, .data, .data, .sentinel, .sentinel, .pinned], laidTests := true, laidLooks := .later }
def ConfRemovesCardSaid : Prop := Claim7.holds Tryz.pinned (.plain (OpenSpec.ofChange confRemovesSpec)) confRemovesCard

/-- THE SECOND FORM's CARD OF 'mastlaw2.ConfRoutes'. -/
def confRoutesUptoCard : Claim7 := { stood := { row := confRoutesUptoRow, standIns := [], harness := (true, "5f5fc2076ca3af012cc792eada01a4c0e2482bec732f39c9c63de4aa159c44b2"), looks := true }, kinds := [], alts := [], laidByText := true, laidKinds := [.data, .data, .data, .data, .pinned], laidTests := true, laidLooks := .later }
def ConfRoutesUptoCardSaid : Prop := Claim7.holds Tryz.pinned (.plain (OpenSpec.upto confRoutesSpec)) confRoutesUptoCard

/-- THE SECOND FORM's CARD OF 'mastlaw2.SiteChecks'. -/
def siteChecksUptoCard : Claim7 := { stood := { row := siteChecksUptoRow, standIns := [], harness := (true, "5f5fc2076ca3af012cc792eada01a4c0e2482bec732f39c9c63de4aa159c44b2"), looks := true }, kinds := [], alts := [], laidByText := true, laidKinds := [.data, .pinned], laidTests := true, laidLooks := .later }
def SiteChecksUptoCardSaid : Prop := Claim7.holds Tryz.pinned (.plain (OpenSpec.upto siteChecksSpec)) siteChecksUptoCard

/-- THE SECOND FORM's CARD OF 'mastlaw2.SiteFinds'. -/
def siteFindsUptoCard : Claim7 := { stood := { row := siteFindsUptoRow, standIns := [], harness := (true, "5f5fc2076ca3af012cc792eada01a4c0e2482bec732f39c9c63de4aa159c44b2"), looks := true }, kinds := [], alts := [], laidByText := true, laidKinds := [.data, .pinned], laidTests := true, laidLooks := .later }
def SiteFindsUptoCardSaid : Prop := Claim7.holds Tryz.pinned (.plain (OpenSpec.upto siteFindsSpec)) siteFindsUptoCard

/-- THE SECOND FORM's CARD OF 'mastlaw2.TreePaths'. -/
def treePathsUptoCard : Claim7 := { stood := { row := treePathsUptoRow, standIns := [], harness := (true, "5f5fc2076ca3af012cc792eada01a4c0e2482bec732f39c9c63de4aa159c44b2"), looks := true }, kinds := [], alts := [], laidByText := true, laidKinds := [.data, .pinned], laidTests := true, laidLooks := .later }
def TreePathsUptoCardSaid : Prop := Claim7.holds Tryz.pinned (.plain (OpenSpec.upto treePathsSpec)) treePathsUptoCard

/-- THE SECOND FORM's CARD OF 'mastlaw2.TreeSources'. -/
def treeSourcesUptoCard : Claim7 := { stood := { row := treeSourcesUptoRow, standIns := [], harness := (true, "5f5fc2076ca3af012cc792eada01a4c0e2482bec732f39c9c63de4aa159c44b2"), looks := true }, kinds := [], alts := [], laidByText := true, laidKinds := [.data, .mapped, .pinned], laidTests := true, laidLooks := .later }
def TreeSourcesUptoCardSaid : Prop := Claim7.holds Tryz.pinned (.plain (OpenSpec.upto treeSourcesSpec)) treeSourcesUptoCard

/-- THE SECOND FORM's CARD OF 'mastlaw2.ConfGets'. -/
def confGetsUptoCard : Claim7 := { stood := { row := confGetsUptoRow, standIns := [], harness := (true, "5f5fc2076ca3af012cc792eada01a4c0e2482bec732f39c9c63de4aa159c44b2"), looks := true }, kinds := [], alts := [], laidByText := true, laidKinds := [.data, .data, .data, .data, .sentinel, .sentinel, .pinned], laidTests := true, laidLooks := .later }
def ConfGetsUptoCardSaid : Prop := Claim7.holds Tryz.pinned (.plain (OpenSpec.upto confGetsSpec)) confGetsUptoCard

/-- THE SECOND FORM's CARD OF 'mastlaw2.ConfRemoves'. -/
def confRemovesUptoCard : Claim7 := { stood := { row := confRemovesUptoRow, standIns := [], harness := (true, "5f5fc2076ca3af012cc792eada01a4c0e2482bec732f39c9c63de4aa159c44b2"), looks := true }, kinds := [], alts := [], laidByText := true, laidKinds := [.data, .data, .data, .data, .sentinel, .sentinel, .pinned], laidTests := true, laidLooks := .later }
def ConfRemovesUptoCardSaid : Prop := Claim7.holds Tryz.pinned (.plain (OpenSpec.upto confRemovesSpec)) confRemovesUptoCard
end Rows
end Go.Proofs.YtibnepagledbjaaGreatDoor
