/-
  DERIVED. GIVEN WITH THE SEED: THE CARDS: each row of YtekpmlfcmnlmiaaGreatDoorRows.lean that lists a variable, with what it lists TIED to the program's text (the seventh form; the later family's looks); each row that meets fmt, with fmt's text TOLD by the authors' own Lean function (tested against real Go, not proved from fmt's source: count such statements apart). THE CARD IS WHAT COUNTS. Prove the row's statement (the work); the ties are given (YtekpmlfcmnlmiaaGreatDoorTie.lean); close each card by the builder's one call (the guide's Derived/Test/ToyasCard.lean, 'card_holds'). Laid BY PROGRAM, IN A SANDBOX (cutbox-door.mjs). By AI agents, Wed Nov 11 2026. No macro, syntax, notation, axiom, sorry.
-/
import Derived.Test.YtekpmlfcmnlmiaaGreatDoorRows
import GoSem.ClaimSeven
namespace Go.Proofs.YtekpmlfcmnlmiaaGreatDoor
namespace Rows

/-- THE TIED CARD OF 'tallyhouselaw10.LexPrints'. -/
def lexPrintsCard : Claim7 := { stood := { row := lexPrintsRow, standIns := [], harness := (true, "30d03b09ced82fa1ccb486984b0465a8f08c5021e082180ddf292ced106db4f0"), looks := true }, kinds := [], alts := [], laidByText := true, laidKinds := [.data, .data, .data, .data, .sentinel, .sentinel, .pinned, .pinned], laidTests := true, laidLooks := .later }
def LexPrintsCardSaid : Prop := Claim7.holds Tryz.pinned (.plain (OpenSpec.ofChange lexPrintsSpec)) lexPrintsCard

/-- THE TIED CARD OF 'tallyhouselaw10.LexShifts'. -/
def lexShiftsCard : Claim7 := { stood := { row := lexShiftsRow, standIns := [], harness := (true, "30d03b09ced82fa1ccb486984b0465a8f08c5021e082180ddf292ced106db4f0"), looks := true }, kinds := [], alts := [], laidByText := true, laidKinds := [.data, .data, .data, .data, .sentinel, .sentinel, .pinned, .pinned], laidTests := true, laidLooks := .later }
def LexShiftsCardSaid : Prop := Claim7.holds Tryz.pinned (.plain (OpenSpec.ofChange lexShiftsSpec)) lexShiftsCard

/-- THE SECOND FORM's CARD OF 'tallyhouselaw10.LexPrints'. -/
def lexPrintsUptoCard : Claim7 := { stood := { row := lexPrintsUptoRow, standIns := [], harness := (true, "30d03b09ced82fa1ccb486984b0465a8f08c5021e082180ddf292ced106db4f0"), looks := true }, kinds := [], alts := [], laidByText := true, laidKinds := [.data, .data, .data, .data, .sentinel, .sentinel, .pinned, .pinned], laidTests := true, laidLooks := .later }
def LexPrintsUptoCardSaid : Prop := Claim7.holds Tryz.pinned (.plain (OpenSpec.upto lexPrintsSpec)) lexPrintsUptoCard

/-- THE SECOND FORM's CARD OF 'tallyhouselaw10.LexShifts'. -/
def lexShiftsUptoCard : Claim7 := { stood := { row := lexShiftsUptoRow, standIns := [], harness := (true, "30d03b09ced82fa1ccb486984b0465a8f08c5021e082180ddf292ced106db4f0"), looks := true }, kinds := [], alts := [], laidByText := true, laidKinds := [.data, .data, .data, .data, .sentinel, .sentinel, .pinned, .pinned], laidTests := true, laidLooks := .later }
def LexShiftsUptoCardSaid : Prop := Claim7.holds Tryz.pinned (.plain (OpenSpec.upto lexShiftsSpec)) lexShiftsUptoCard
end Rows
end Go.Proofs.YtekpmlfcmnlmiaaGreatDoor
