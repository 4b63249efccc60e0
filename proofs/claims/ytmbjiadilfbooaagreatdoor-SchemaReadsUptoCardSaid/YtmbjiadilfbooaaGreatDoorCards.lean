/-
  DERIVED. GIVEN WITH THE SEED: THE CARDS: each row of YtmbjiadilfbooaaGreatDoorRows.lean that lists a variable, with what it lists TIED to the program's text (the seventh form; the later family's looks); each row that meets fmt, with fmt's text TOLD by the authors' own Lean function (tested against real Go, not proved from fmt's source: count such statements apart). THE CARD IS WHAT COUNTS. Prove the row's statement (the work); the ties are given (YtmbjiadilfbooaaGreatDoorTie.lean); close each card by the builder's one call (the guide's Derived/Test/ToyasCard.lean, 'card_holds'). Laid BY PROGRAM, IN A SANDBOX (cutbox-door.mjs). By AI agents, Wed Nov 11 2026. No macro, syntax, notation, axiom, sorry.
-/
import Derived.Test.YtmbjiadilfbooaaGreatDoorRows
import GoSem.ClaimSeven
namespace Go.Proofs.YtmbjiadilfbooaaGreatDoor
namespace Rows

/-- THE TIED CARD OF 'mastlaw2.CondHolds'. -/
def condHoldsCard : Claim7 := { stood := { row := condHoldsRow, standIns := [], harness := (true, "46b153204df1b80147669d21487ea3ea38373461f3c351df233d7c506e0172a3"), looks := true }, kinds := [], alts := [], laidByText := true, laidKinds := [.data, .data, .data, .data, .sentinel, .sentinel, .widerDeep, .pinned], laidTests := true, laidLooks := .later }
def CondHoldsCardSaid : Prop := Claim7.holds Tryz.pinned (.plain (OpenSpec.ofChange condHoldsSpec)) condHoldsCard

/-- THE TIED CARD OF 'mastlaw2.ListWhere'. -/
def listWhereCard : Claim7 := { stood := { row := listWhereRow, standIns := [], harness := (true, "46b153204df1b80147669d21487ea3ea38373461f3c351df233d7c506e0172a3"), looks := true }, kinds := [], alts := [], laidByText := true, laidKinds := [.data, .data, .data, .data, .sentinel, .sentinel, .widerDeep, .pinned], laidTests := true, laidLooks := .later }
def ListWhereCardSaid : Prop := Claim7.holds Tryz.pinned (.plain (OpenSpec.ofChange listWhereSpec)) listWhereCard

/-- THE TIED CARD OF 'mastlaw2.ListSums'. -/
def listSumsCard : Claim7 := { stood := { row := listSumsRow, standIns := [], harness := (true, "46b153204df1b80147669d21487ea3ea38373461f3c351df233d7c506e0172a3"), looks := true }, kinds := [], alts := [], laidByText := true, laidKinds := [.data, .data, .data, .data, .sentinel, .sentinel, .pinned], laidTests := true, laidLooks := .later }
def ListSumsCardSaid : Prop := Claim7.holds Tryz.pinned (.plain (OpenSpec.ofChange listSumsSpec)) listSumsCard

/-- THE TIED CARD OF 'mastlaw2.SchemaFaults'. -/
def schemaFaultsCard : Claim7 := { stood := { row := schemaFaultsRow, standIns := [], harness := (true, "46b153204df1b80147669d21487ea3ea38373461f3c351df233d7c506e0172a3"), looks := true }, kinds := [], alts := [], laidByText := true, laidKinds := [.data, .data, .data, .data, .sentinel, .sentinel, .pinned], laidTests := true, laidLooks := .later }
def SchemaFaultsCardSaid : Prop := Claim7.holds Tryz.pinned (.plain (OpenSpec.ofChange schemaFaultsSpec)) schemaFaultsCard

/-- THE TIED CARD OF 'mastlaw2.SchemaReads'. -/
def schemaReadsCard : Claim7 := { stood := { row := schemaReadsRow, standIns := [], harness := (true, "46b153204df1b80147669d21487ea3ea38373461f3c351df233d7c506e0172a3"), looks := true }, kinds := [], alts := [], laidByText := true, laidKinds := [.data, .data, .data, .data, .sentinel, .sentinel, .data, .widerDeep, .pinned], laidTests := true, laidLooks := .later }
def SchemaReadsCardSaid : Prop := Claim7.holds Tryz.pinned (.plain (OpenSpec.ofChange schemaReadsSpec)) schemaReadsCard

/-- THE TIED CARD OF 'mastlaw2.ImageReads'. -/
def imageReadsCard : Claim7 := { stood := { row := imageReadsRow, standIns := [], harness := (true, "46b153204df1b80147669d21487ea3ea38373461f3c351df233d7c506e0172a3"), looks := true }, kinds := [], alts := [], laidByText := true, laidKinds := [.data, .data, .data, .data, .sentinel, .sentinel, .pinned], laidTests := true, laidLooks := .later }
def ImageReadsCardSaid : Prop := Claim7.holds Tryz.pinned (.plain (OpenSpec.ofChange imageReadsSpec)) imageReadsCard

/-- THE TIED CARD OF 'mastlaw2.AssetMapped'. -/
def assetMappedCard : Claim7 := { stood := { row := assetMappedRow, standIns := [], harness := (true, "46b153204df1b80147669d21487ea3ea38373461f3c351df233d7c506e0172a3"), looks := true }, kinds := [], alts := [], laidByText := true, laidKinds := [.data, .data, .data, .data, .sentinel, .sentinel, .pinned], laidTests := true, laidLooks := .later }
def AssetMappedCardSaid : Prop := Claim7.holds Tryz.pinned (.plain (OpenSpec.ofChange assetMappedSpec)) assetMappedCard

/-- THE SECOND FORM's CARD OF 'mastlaw2.CondHolds'. -/
def condHoldsUptoCard : Claim7 := { stood := { row := condHoldsUptoRow, standIns := [], harness := (true, "46b153204df1b80147669d21487ea3ea38373461f3c351df233d7c506e0172a3"), looks := true }, kinds := [], alts := [], laidByText := true, laidKinds := [.data, .data, .data, .data, .sentinel, .sentinel, .widerDeep, .pinned], laidTests := true, laidLooks := .later }
def CondHoldsUptoCardSaid : Prop := Claim7.holds Tryz.pinned (.plain (OpenSpec.upto condHoldsSpec)) condHoldsUptoCard

/-- THE SECOND FORM's CARD OF 'mastlaw2.ListWhere'. -/
def listWhereUptoCard : Claim7 := { stood := { row := listWhereUptoRow, standIns := [], harness := (true, "46b153204df1b80147669d21487ea3ea38373461f3c351df233d7c506e0172a3"), looks := true }, kinds := [], alts := [], laidByText := true, laidKinds := [.data, .data, .data, .data, .sentinel, .sentinel, .widerDeep, .pinned], laidTests := true, laidLooks := .later }
def ListWhereUptoCardSaid : Prop := Claim7.holds Tryz.pinned (.plain (OpenSpec.upto listWhereSpec)) listWhereUptoCard

/-- THE SECOND FORM's CARD OF 'mastlaw2.ListSums'. -/
def listSumsUptoCard : Claim7 := { stood := { row := listSumsUptoRow, standIns := [], harness := (true, "46b153204df1b80147669d21487ea3ea38373461f3c351df233d7c506e0172a3"), looks := true }, kinds := [], alts := [], laidByText := true, laidKinds := [.data, .data, .data, .data, .sentinel, .sentinel, .pinned], laidTests := true, laidLooks := .later }
def ListSumsUptoCardSaid : Prop := Claim7.holds Tryz.pinned (.plain (OpenSpec.upto listSumsSpec)) listSumsUptoCard

/-- THE SECOND FORM's CARD OF 'mastlaw2.SchemaFaults'. -/
def schemaFaultsUptoCard : Claim7 := { stood := { row := schemaFaultsUptoRow, standIns := [], harness := (true, "46b153204df1b80147669d21487ea3ea38373461f3c351df233d7c506e0172a3"), looks := true }, kinds := [], alts := [], laidByText := true, laidKinds := [.data, .data, .data, .data, .sentinel, .sentinel, .pinned], laidTests := true, laidLooks := .later }
def SchemaFaultsUptoCardSaid : Prop := Claim7.holds Tryz.pinned (.plain (OpenSpec.upto schemaFaultsSpec)) schemaFaultsUptoCard

/-- THE SECOND FORM's CARD OF 'mastlaw2.SchemaReads'. -/
def schemaReadsUptoCard : Claim7 := { stood := { row := schemaReadsUptoRow, standIns := [], harness := (true, "46b153204df1b80147669d21487ea3ea38373461f3c351df233d7c506e0172a3"), looks := true }, kinds := [], alts := [], laidByText := true, laidKinds := [.data, .data, .data, .data, .sentinel, .sentinel, .data, .widerDeep, .pinned], laidTests := true, laidLooks := .later }
def SchemaReadsUptoCardSaid : Prop := Claim7.holds Tryz.pinned (.plain (OpenSpec.upto schemaReadsSpec)) schemaReadsUptoCard

/-- THE SECOND FORM's CARD OF 'mastlaw2.ImageReads'. -/
def imageReadsUptoCard : Claim7 := { stood := { row := imageReadsUptoRow, standIns := [], harness := (true, "46b153204df1b80147669d21487ea3ea38373461f3c351df233d7c506e0172a3"), looks := true }, kinds := [], alts := [], laidByText := true, laidKinds := [.data, .data, .data, .data, .sentinel, .sentinel, .pinned], laidTests := true, laidLooks := .later }
def ImageReadsUptoCardSaid : Prop := Claim7.holds Tryz.pinned (.plain (OpenSpec.upto imageReadsSpec)) imageReadsUptoCard

/-- THE SECOND FORM's CARD OF 'mastlaw2.AssetMapped'. -/
def assetMappedUptoCard : Claim7 := { stood := { row := assetMappedUptoRow, standIns := [], harness := (true, "46b153204df1b80147669d21487ea3ea38373461f3c351df233d7c506e0172a3"), looks := true }, kinds := [], alts := [], laidByText := true, laidKinds := [.data, .data, .data, .data, .sentinel, .sentinel, .pinned], laidTests := true, laidLooks := .later }
def AssetMappedUptoCardSaid : Prop := Claim7.holds Tryz.pinned (.plain (OpenSpec.upto assetMappedSpec)) assetMappedUptoCard
end Rows
end Go.Proofs.YtmbjiadilfbooaaGreatDoor
