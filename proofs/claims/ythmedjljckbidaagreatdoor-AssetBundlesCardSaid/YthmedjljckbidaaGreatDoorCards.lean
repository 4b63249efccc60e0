/-
  DERIVED. GIVEN WITH THE SEED: THE CARDS: each row of YthmedjljckbidaaGreatDoorRows.lean that lists a variable, with what it lists TIED to the program's text (the seventh form; the later family's looks); each row that meets fmt, with fmt's text TOLD by the authors' own Lean function (tested against real Go, not proved from fmt's source: count such statements apart). THE CARD IS WHAT COUNTS. Prove the row's statement (the work); the ties are given (YthmedjljckbidaaGreatDoorTie.lean); close each card by the builder's one call (the guide's Derived/Test/ToyasCard.lean, 'card_holds'). Laid BY PROGRAM, IN A SANDBOX (cutbox-door.mjs). By AI agents, Wed Nov 11 2026. No macro, syntax, notation, axiom, sorry.
-/
import Derived.Test.YthmedjljckbidaaGreatDoorRows
import GoSem.ClaimSeven
namespace Go.Proofs.YthmedjljckbidaaGreatDoor
namespace Rows

/-- THE TIED CARD OF 'mastlaw2.AssetBundles'. -/
def assetBundlesCard : Claim7 := { stood := { row := assetBundlesRow, standIns := [], harness := (true, "fe36f8272e3831dd4c0ace060ab68e5dbeebd03777e00f5bd39eb94212c98ace"), looks := true }, kinds := [], alts := [], laidByText := true, laidKinds := [.data, .pinned], laidTests := true, laidLooks := .later }
def AssetBundlesCardSaid : Prop := Claim7.holds Tryz.pinned (.plain (OpenSpec.ofChange assetBundlesSpec)) assetBundlesCard

/-- THE TIED CARD OF 'mastlaw2.ConfRoutes'. -/
def confRoutesCard : Claim7 := { stood := { row := confRoutesRow, standIns := [], harness := (true, "fe36f8272e3831dd4c0ace060ab68e5dbeebd03777e00f5bd39eb94212c98ace"), looks := true }, kinds := [], alts := [], laidByText := true, laidKinds := [.data, .data, .data, .data, .pinned], laidTests := true, laidLooks := .later }
def ConfRoutesCardSaid : Prop := Claim7.holds Tryz.pinned (.plain (OpenSpec.ofChange confRoutesSpec)) confRoutesCard

/-- THE TIED CARD OF 'mastlaw2.SiteChecks'. -/
def siteChecksCard : Claim7 := { stood := { row := siteChecksRow, standIns := [], harness := (true, "fe36f8272e3831dd4c0ace060ab68e5dbeebd03777e00f5bd39eb94212c98ace"), looks := true }, kinds := [], alts := [], laidByText := true, laidKinds := [.data, .pinned], laidTests := true, laidLooks := .later }
def SiteChecksCardSaid : Prop := Claim7.holds Tryz.pinned (.plain (OpenSpec.ofChange siteChecksSpec)) siteChecksCard

/-- THE TIED CARD OF 'mastlaw2.SiteFinds'. -/
def siteFindsCard : Claim7 := { stood := { row := siteFindsRow, standIns := [], harness := (true, "fe36f8272e3831dd4c0ace060ab68e5dbeebd03777e00f5bd39eb94212c98ace"), looks := true }, kinds := [], alts := [], laidByText := true, laidKinds := [.data, .pinned], laidTests := true, laidLooks := .later }
def SiteFindsCardSaid : Prop := Claim7.holds Tryz.pinned (.plain (OpenSpec.ofChange siteFindsSpec)) siteFindsCard

/-- THE TIED CARD OF 'mastlaw2.SiteResolves'. -/
def siteResolvesCard : Claim7 := { stood := { row := siteResolvesRow, standIns := [], harness := (true, "fe36f8272e3831dd4c0ace060ab68e5dbeebd03777e00f5bd39eb94212c98ace"), looks := true }, kinds := [], alts := [], laidByText := true, laidKinds := [.data, .pinned], laidTests := true, laidLooks := .later }
def SiteResolvesCardSaid : Prop := Claim7.holds Tryz.pinned (.plain (OpenSpec.ofChange siteResolvesSpec)) siteResolvesCard

/-- THE TIED CARD OF 'mastlaw2.AssetMapped'. -/
def assetMappedCard : Claim7 := { stood := { row := assetMappedRow, standIns := [], harness := (true, "fe36f8272e3831dd4c0ace060ab68e5dbeebd03777e00f5bd39eb94212c98ace"), looks := true }, kinds := [], alts := [], laidByText := true, laidKinds := [.data, .data, .data, .data, .sentinel, .sentinel, .pinned], laidTests := true, laidLooks := .later }
def AssetMappedCardSaid : Prop := Claim7.holds Tryz.pinned (.plain (OpenSpec.ofChange assetMappedSpec)) assetMappedCard

/-- THE TIED CARD OF 'mastlaw2.SchemaFaults'. -/
def schemaFaultsCard : Claim7 := { stood := { row := schemaFaultsRow, standIns := [], harness := (true, "fe36f8272e3831dd4c0ace060ab68e5dbeebd03777e00f5bd39eb94212c98ace"), looks := true }, kinds := [], alts := [], laidByText := true, laidKinds := [.data, .data, .data, .data, .sentinel, .sentinel, .pinned], laidTests := true, laidLooks := .later }
def SchemaFaultsCardSaid : Prop := Claim7.holds Tryz.pinned (.plain (OpenSpec.ofChange schemaFaultsSpec)) schemaFaultsCard

/-- THE TIED CARD OF 'mastlaw2.ListWhere'. -/
def listWhereCard : Claim7 := { stood := { row := listWhereRow, standIns := [], harness := (true, "fe36f8272e3831dd4c0ace060ab68e5dbeebd03777e00f5bd39eb94212c98ace"), looks := true }, kinds := [], alts := [], laidByText := true, laidKinds := [.data, .data, .data, .data, .sentinel, .sentinel, .widerDeep, .pinned], laidTests := true, laidLooks := .later }
def ListWhereCardSaid : Prop := Claim7.holds Tryz.pinned (.plain (OpenSpec.ofChange listWhereSpec)) listWhereCard

/-- THE SECOND FORM's CARD OF 'mastlaw2.AssetBundles'. -/
def assetBundlesUptoCard : Claim7 := { stood := { row := assetBundlesUptoRow, standIns := [], harness := (true, "fe36f8272e3831dd4c0ace060ab68e5dbeebd03777e00f5bd39eb94212c98ace"), looks := true }, kinds := [], alts := [], laidByText := true, laidKinds := [.data, .pinned], laidTests := true, laidLooks := .later }
def AssetBundlesUptoCardSaid : Prop := Claim7.holds Tryz.pinned (.plain (OpenSpec.upto assetBundlesSpec)) assetBundlesUptoCard

/-- THE SECOND FORM's CARD OF 'mastlaw2.ConfRoutes'. -/
def confRoutesUptoCard : Claim7 := { stood := { row := confRoutesUptoRow, standIns := [], harness := (true, "fe36f8272e3831dd4c0ace060ab68e5dbeebd03777e00f5bd39eb94212c98ace"), looks := true }, kinds := [], alts := [], laidByText := true, laidKinds := [.data, .data, .data, .data, .pinned], laidTests := true, laidLooks := .later }
def ConfRoutesUptoCardSaid : Prop := Claim7.holds Tryz.pinned (.plain (OpenSpec.upto confRoutesSpec)) confRoutesUptoCard

/-- THE SECOND FORM's CARD OF 'mastlaw2.SiteChecks'. -/
def siteChecksUptoCard : Claim7 := { stood := { row := siteChecksUptoRow, standIns := [], harness := (true, "fe36f8272e3831dd4c0ace060ab68e5dbeebd03777e00f5bd39eb94212c98ace"), looks := true }, kinds := [], alts := [], laidByText := true, laidKinds := [.data, .pinned], laidTests := true, laidLooks := .later }
def SiteChecksUptoCardSaid : Prop := Claim7.holds Tryz.pinned (.plain (OpenSpec.upto siteChecksSpec)) siteChecksUptoCard

/-- THE SECOND FORM's CARD OF 'mastlaw2.SiteFinds'. -/
def siteFindsUptoCard : Claim7 := { stood := { row := siteFindsUptoRow, standIns := [], harness := (true, "fe36f8272e3831dd4c0ace060ab68e5dbeebd03777e00f5bd39eb94212c98ace"), looks := true }, kinds := [], alts := [], laidByText := true, laidKinds := [.data, .pinned], laidTests := true, laidLooks := .later }
def SiteFindsUptoCardSaid : Prop := Claim7.holds Tryz.pinned (.plain (OpenSpec.upto siteFindsSpec)) siteFindsUptoCard

/-- THE SECOND FORM's CARD OF 'mastlaw2.SiteResolves'. -/
def siteResolvesUptoCard : Claim7 := { stood := { row := siteResolvesUptoRow, standIns := [], harness := (true, "fe36f8272e3831dd4c0ace060ab68e5dbeebd03777e00f5bd39eb94212c98ace"), looks := true }, kinds := [], alts := [], laidByText := true, laidKinds := [.data, .pinned], laidTests := true, laidLooks := .later }
def SiteResolvesUptoCardSaid : Prop := Claim7.holds Tryz.pinned (.plain (OpenSpec.upto siteResolvesSpec)) siteResolvesUptoCard

/-- THE SECOND FORM's CARD OF 'mastlaw2.AssetMapped'. -/
def assetMappedUptoCard : Claim7 := { stood := { row := assetMappedUptoRow, standIns := [], harness := (true, "fe36f8272e3831dd4c0ace060ab68e5dbeebd03777e00f5bd39eb94212c98ace"), looks := true }, kinds := [], alts := [], laidByText := true, laidKinds := [.data, .data, .data, .data, .sentinel, .sentinel, .pinned], laidTests := true, laidLooks := .later }
def AssetMappedUptoCardSaid : Prop := Claim7.holds Tryz.pinned (.plain (OpenSpec.upto assetMappedSpec)) assetMappedUptoCard

/-- THE SECOND FORM's CARD OF 'mastlaw2.SchemaFaults'. -/
def schemaFaultsUptoCard : Claim7 := { stood := { row := schemaFaultsUptoRow, standIns := [], harness := (true, "fe36f8272e3831dd4c0ace060ab68e5dbeebd03777e00f5bd39eb94212c98ace"), looks := true }, kinds := [], alts := [], laidByText := true, laidKinds := [.data, .data, .data, .data, .sentinel, .sentinel, .pinned], laidTests := true, laidLooks := .later }
def SchemaFaultsUptoCardSaid : Prop := Claim7.holds Tryz.pinned (.plain (OpenSpec.upto schemaFaultsSpec)) schemaFaultsUptoCard

/-- THE SECOND FORM's CARD OF 'mastlaw2.ListWhere'. -/
def listWhereUptoCard : Claim7 := { stood := { row := listWhereUptoRow, standIns := [], harness := (true, "fe36f8272e3831dd4c0ace060ab68e5dbeebd03777e00f5bd39eb94212c98ace"), looks := true }, kinds := [], alts := [], laidByText := true, laidKinds := [.data, .data, .data, .data, .sentinel, .sentinel, .widerDeep, .pinned], laidTests := true, laidLooks := .later }
def ListWhereUptoCardSaid : Prop := Claim7.holds Tryz.pinned (.plain (OpenSpec.upto listWhereSpec)) listWhereUptoCard
end Rows
end Go.Proofs.YthmedjljckbidaaGreatDoor
