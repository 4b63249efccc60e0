/-
  DERIVED. GIVEN WITH THE SEED: THE CARDS: each row of YtdllocgdhdfgeaaDoorRows.lean that lists a variable, with what it lists TIED to the program's text (the seventh form; the later family's looks); each row that meets fmt, with fmt's text TOLD by the authors' own Lean function (tested against real Go, not proved from fmt's source: count such statements apart). THE CARD IS WHAT COUNTS. Prove the row's statement (the work); the ties are given (YtdllocgdhdfgeaaDoorTie.lean); close each card by the builder's one call (the guide's Derived/Test/ToyasCard.lean, 'card_holds'). Laid BY PROGRAM, IN A SANDBOX (cutbox-door.mjs). By AI agents, Wed Nov 11 2026. No macro, syntax, notation, axiom, sorry.
-/
import Derived.Test.YtdllocgdhdfgeaaDoorRows
import GoSem.ClaimSeven
namespace Go.Proofs.YtdllocgdhdfgeaaDoor
namespace Rows

/-- THE TIED CARD OF 'mastlaw2.ImageWrites'. -/
def imageWritesCard : Claim7 := { stood := { row := imageWritesRow, standIns := [], harness := (true, "ec464b02f621e297f8a1042607d303c5eedff0d54a1819a0cfab3c275fa8ecfb"), looks := false }, kinds := [], alts := [], laidByText := true, laidKinds := [.data, .data, .data], laidTests := true, laidLooks := .later }
def ImageWritesCardSaid : Prop := Claim7.holds Tryd.pinned (.plain (OpenSpec.ofChange imageWritesSpec)) imageWritesCard

/-- THE TIED CARD OF 'mastlaw2.AssetMaps'. -/
def assetMapsCard : Claim7 := { stood := { row := assetMapsRow, standIns := [], harness := (true, "ec464b02f621e297f8a1042607d303c5eedff0d54a1819a0cfab3c275fa8ecfb"), looks := false }, kinds := [], alts := [], laidByText := true, laidKinds := [.data, .data, .data, .data, .pinned], laidTests := true, laidLooks := .later }
def AssetMapsCardSaid : Prop := Claim7.holds Tryd.pinned (.plain (OpenSpec.ofChange assetMapsSpec)) assetMapsCard

/-- THE TIED CARD OF 'mastlaw2.ImageSources'. -/
def imageSourcesCard : Claim7 := { stood := { row := imageSourcesRow, standIns := [], harness := (true, "ec464b02f621e297f8a1042607d303c5eedff0d54a1819a0cfab3c275fa8ecfb"), looks := false }, kinds := [], alts := [], laidByText := true, laidKinds := [.data, .data, .data, .data, .pinned], laidTests := true, laidLooks := .later }
def ImageSourcesCardSaid : Prop := Claim7.holds Tryd.pinned (.plain (OpenSpec.ofChange imageSourcesSpec)) imageSourcesCard

/-- THE TIED CARD OF 'mastlaw2.AssetNames'. -/
def assetNamesCard : Claim7 := { stood := { row := assetNamesRow, standIns := [], harness := (true, "ec464b02f621e297f8a1042607d303c5eedff0d54a1819a0cfab3c275fa8ecfb"), looks := false }, kinds := [], alts := [], laidByText := true, laidKinds := [.data, .data, .data, .data, .pinned], laidTests := true, laidLooks := .later }
def AssetNamesCardSaid : Prop := Claim7.holds Tryd.pinned (.plain (OpenSpec.ofChange assetNamesSpec)) assetNamesCard

/-- THE SECOND FORM's CARD OF 'mastlaw2.ImageWrites'. -/
def imageWritesUptoCard : Claim7 := { stood := { row := imageWritesUptoRow, standIns := [], harness := (true, "ec464b02f621e297f8a1042607d303c5eedff0d54a1819a0cfab3c275fa8ecfb"), looks := false }, kinds := [], alts := [], laidByText := true, laidKinds := [.data, .data, .data], laidTests := true, laidLooks := .later }
def ImageWritesUptoCardSaid : Prop := Claim7.holds Tryd.pinned (.plain (OpenSpec.upto imageWritesSpec)) imageWritesUptoCard

/-- THE SECOND FORM's CARD OF 'mastlaw2.AssetMaps'. -/
def assetMapsUptoCard : Claim7 := { stood := { row := assetMapsUptoRow, standIns := [], harness := (true, "ec464b02f621e297f8a1042607d303c5eedff0d54a1819a0cfab3c275fa8ecfb"), looks := false }, kinds := [], alts := [], laidByText := true, laidKinds := [.data, .data, .data, .data, .pinned], laidTests := true, laidLooks := .later }
def AssetMapsUptoCardSaid : Prop := Claim7.holds Tryd.pinned (.plain (OpenSpec.upto assetMapsSpec)) assetMapsUptoCard

/-- THE SECOND FORM's CARD OF 'mastlaw2.ImageSources'. -/
def imageSourcesUptoCard : Claim7 := { stood := { row := imageSourcesUptoRow, standIns := [], harness := (true, "ec464b02f621e297f8a1042607d303c5eedff0d54a1819a0cfab3c275fa8ecfb"), looks := false }, kinds := [], alts := [], laidByText := true, laidKinds := [.data, .data, .data, .data, .pinned], laidTests := true, laidLooks := .later }
def ImageSourcesUptoCardSaid : Prop := Claim7.holds Tryd.pinned (.plain (OpenSpec.upto imageSourcesSpec)) imageSourcesUptoCard

/-- THE SECOND FORM's CARD OF 'mastlaw2.AssetNames'. -/
def assetNamesUptoCard : Claim7 := { stood := { row := assetNamesUptoRow, standIns := [], harness := (true, "ec464b02f621e297f8a1042607d303c5eedff0d54a1819a0cfab3c275fa8ecfb"), looks := false }, kinds := [], alts := [], laidByText := true, laidKinds := [.data, .data, .data, .data, .pinned], laidTests := true, laidLooks := .later }
def AssetNamesUptoCardSaid : Prop := Claim7.holds Tryd.pinned (.plain (OpenSpec.upto assetNamesSpec)) assetNamesUptoCard
end Rows
end Go.Proofs.YtdllocgdhdfgeaaDoor
