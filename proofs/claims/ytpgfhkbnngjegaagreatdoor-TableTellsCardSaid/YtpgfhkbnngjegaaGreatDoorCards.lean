/-
  DERIVED. GIVEN WITH THE SEED: THE CARDS: each row of YtpgfhkbnngjegaaGreatDoorRows.lean that lists a variable, with what it lists TIED to the program's text (the seventh form; the later family's looks); each row that meets fmt, with fmt's text TOLD by the authors' own Lean function (tested against real Go, not proved from fmt's source: count such statements apart). THE CARD IS WHAT COUNTS. Prove the row's statement (the work); the ties are given (YtpgfhkbnngjegaaGreatDoorTie.lean); close each card by the builder's one call (the guide's Derived/Test/ToyasCard.lean, 'card_holds'). Laid BY PROGRAM, IN A SANDBOX (cutbox-door.mjs). By AI agents, Wed Nov 11 2026. No macro, syntax, notation, axiom, sorry.
-/
import Derived.Test.YtpgfhkbnngjegaaGreatDoorRows
import GoSem.ClaimSeven
namespace Go.Proofs.YtpgfhkbnngjegaaGreatDoor
namespace Rows

/-- THE TIED CARD OF 'tallyhouselaw12.TableRows'. -/
def tableRowsCard : Claim7 := { stood := { row := tableRowsRow, standIns := [], harness := (true, "d39186990569afcee1aea220bd0d84b680ee99ee4a2908fb6ead35de7c009fa5"), looks := false }, kinds := [], alts := [], laidByText := true, laidKinds := [.data, .pinned, .pinned], laidTests := true, laidLooks := .later }
def TableRowsCardSaid : Prop := Claim7.holds Tryz.pinned (.plain (OpenSpec.ofChange tableRowsSpec)) tableRowsCard

/-- THE TIED CARD OF 'tallyhouselaw12.TableTells'. -/
def tableTellsCard : Claim7 := { stood := { row := tableTellsRow, standIns := [], harness := (true, "d39186990569afcee1aea220bd0d84b680ee99ee4a2908fb6ead35de7c009fa5"), looks := false }, kinds := [], alts := [], laidByText := true, laidKinds := [.data, .pinned, .pinned], laidTests := true, laidLooks := .later }
def TableTellsCardSaid : Prop := Claim7.holds Tryz.pinned (.plain (OpenSpec.ofChange tableTellsSpec)) tableTellsCard

/-- THE TIED CARD OF 'tallyhouselaw12.TablePairs'. -/
def tablePairsCard : Claim7 := { stood := { row := tablePairsRow, standIns := [], harness := (true, "d39186990569afcee1aea220bd0d84b680ee99ee4a2908fb6ead35de7c009fa5"), looks := false }, kinds := [], alts := [], laidByText := true, laidKinds := [.data, .pinned, .pinned], laidTests := true, laidLooks := .later }
def TablePairsCardSaid : Prop := Claim7.holds Tryz.pinned (.plain (OpenSpec.ofChange tablePairsSpec)) tablePairsCard

/-- THE TIED CARD OF 'tallyhouselaw12.TableDoes'. -/
def tableDoesCard : Claim7 := { stood := { row := tableDoesRow, standIns := [], harness := (true, "d39186990569afcee1aea220bd0d84b680ee99ee4a2908fb6ead35de7c009fa5"), looks := false }, kinds := [], alts := [], laidByText := true, laidKinds := [.data, .pinned, .pinned], laidTests := true, laidLooks := .later }
def TableDoesCardSaid : Prop := Claim7.holds Tryz.pinned (.plain (OpenSpec.ofChange tableDoesSpec)) tableDoesCard

/-- THE TIED CARD OF 'tallyhouselaw12.TableBack'. -/
def tableBackCard : Claim7 := { stood := { row := tableBackRow, standIns := [], harness := (true, "d39186990569afcee1aea220bd0d84b680ee99ee4a2908fb6ead35de7c009fa5"), looks := false }, kinds := [], alts := [], laidByText := true, laidKinds := [.data, .pinned, .pinned], laidTests := true, laidLooks := .later }
def TableBackCardSaid : Prop := Claim7.holds Tryz.pinned (.plain (OpenSpec.ofChange tableBackSpec)) tableBackCard

/-- THE TIED CARD OF 'tallyhouselaw12.TableBytes'. -/
def tableBytesCard : Claim7 := { stood := { row := tableBytesRow, standIns := [], harness := (true, "d39186990569afcee1aea220bd0d84b680ee99ee4a2908fb6ead35de7c009fa5"), looks := false }, kinds := [], alts := [], laidByText := true, laidKinds := [.data, .pinned, .pinned], laidTests := true, laidLooks := .later }
def TableBytesCardSaid : Prop := Claim7.holds Tryz.pinned (.plain (OpenSpec.ofChange tableBytesSpec)) tableBytesCard

/-- THE TIED CARD OF 'tallyhouselaw12.TableCodes'. -/
def tableCodesCard : Claim7 := { stood := { row := tableCodesRow, standIns := [], harness := (true, "d39186990569afcee1aea220bd0d84b680ee99ee4a2908fb6ead35de7c009fa5"), looks := false }, kinds := [], alts := [], laidByText := true, laidKinds := [.data, .pinned, .pinned], laidTests := true, laidLooks := .later }
def TableCodesCardSaid : Prop := Claim7.holds Tryz.pinned (.plain (OpenSpec.ofChange tableCodesSpec)) tableCodesCard

/-- THE SECOND FORM's CARD OF 'tallyhouselaw12.TableRows'. -/
def tableRowsUptoCard : Claim7 := { stood := { row := tableRowsUptoRow, standIns := [], harness := (true, "d39186990569afcee1aea220bd0d84b680ee99ee4a2908fb6ead35de7c009fa5"), looks := false }, kinds := [], alts := [], laidByText := true, laidKinds := [.data, .pinned, .pinned], laidTests := true, laidLooks := .later }
def TableRowsUptoCardSaid : Prop := Claim7.holds Tryz.pinned (.plain (OpenSpec.upto tableRowsSpec)) tableRowsUptoCard

/-- THE SECOND FORM's CARD OF 'tallyhouselaw12.TableTells'. -/
def tableTellsUptoCard : Claim7 := { stood := { row := tableTellsUptoRow, standIns := [], harness := (true, "d39186990569afcee1aea220bd0d84b680ee99ee4a2908fb6ead35de7c009fa5"), looks := false }, kinds := [], alts := [], laidByText := true, laidKinds := [.data, .pinned, .pinned], laidTests := true, laidLooks := .later }
def TableTellsUptoCardSaid : Prop := Claim7.holds Tryz.pinned (.plain (OpenSpec.upto tableTellsSpec)) tableTellsUptoCard

/-- THE SECOND FORM's CARD OF 'tallyhouselaw12.TablePairs'. -/
def tablePairsUptoCard : Claim7 := { stood := { row := tablePairsUptoRow, standIns := [], harness := (true, "d39186990569afcee1aea220bd0d84b680ee99ee4a2908fb6ead35de7c009fa5"), looks := false }, kinds := [], alts := [], laidByText := true, laidKinds := [.data, .pinned, .pinned], laidTests := true, laidLooks := .later }
def TablePairsUptoCardSaid : Prop := Claim7.holds Tryz.pinned (.plain (OpenSpec.upto tablePairsSpec)) tablePairsUptoCard

/-- THE SECOND FORM's CARD OF 'tallyhouselaw12.TableDoes'. -/
def tableDoesUptoCard : Claim7 := { stood := { row := tableDoesUptoRow, standIns := [], harness := (true, "d39186990569afcee1aea220bd0d84b680ee99ee4a2908fb6ead35de7c009fa5"), looks := false }, kinds := [], alts := [], laidByText := true, laidKinds := [.data, .pinned, .pinned], laidTests := true, laidLooks := .later }
def TableDoesUptoCardSaid : Prop := Claim7.holds Tryz.pinned (.plain (OpenSpec.upto tableDoesSpec)) tableDoesUptoCard

/-- THE SECOND FORM's CARD OF 'tallyhouselaw12.TableBack'. -/
def tableBackUptoCard : Claim7 := { stood := { row := tableBackUptoRow, standIns := [], harness := (true, "d39186990569afcee1aea220bd0d84b680ee99ee4a2908fb6ead35de7c009fa5"), looks := false }, kinds := [], alts := [], laidByText := true, laidKinds := [.data, .pinned, .pinned], laidTests := true, laidLooks := .later }
def TableBackUptoCardSaid : Prop := Claim7.holds Tryz.pinned (.plain (OpenSpec.upto tableBackSpec)) tableBackUptoCard

/-- THE SECOND FORM's CARD OF 'tallyhouselaw12.TableBytes'. -/
def tableBytesUptoCard : Claim7 := { stood := { row := tableBytesUptoRow, standIns := [], harness := (true, "d39186990569afcee1aea220bd0d84b680ee99ee4a2908fb6ead35de7c009fa5"), looks := false }, kinds := [], alts := [], laidByText := true, laidKinds := [.data, .pinned, .pinned], laidTests := true, laidLooks := .later }
def TableBytesUptoCardSaid : Prop := Claim7.holds Tryz.pinned (.plain (OpenSpec.upto tableBytesSpec)) tableBytesUptoCard

/-- THE SECOND FORM's CARD OF 'tallyhouselaw12.TableCodes'. -/
def tableCodesUptoCard : Claim7 := { stood := { row := tableCodesUptoRow, standIns := [], harness := (true, "d39186990569afcee1aea220bd0d84b680ee99ee4a2908fb6ead35de7c009fa5"), looks := false }, kinds := [], alts := [], laidByText := true, laidKinds := [.data, .pinned, .pinned], laidTests := true, laidLooks := .later }
def TableCodesUptoCardSaid : Prop := Claim7.holds Tryz.pinned (.plain (OpenSpec.upto tableCodesSpec)) tableCodesUptoCard
end Rows
end Go.Proofs.YtpgfhkbnngjegaaGreatDoor
