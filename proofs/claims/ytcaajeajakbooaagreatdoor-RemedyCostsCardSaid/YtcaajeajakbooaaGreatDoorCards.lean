/-
  DERIVED. GIVEN WITH THE SEED: THE CARDS: each row of YtcaajeajakbooaaGreatDoorRows.lean that lists a variable, with what it lists TIED to the program's text (the seventh form; the later family's looks); each row that meets fmt, with fmt's text TOLD by the authors' own Lean function (tested against real Go, not proved from fmt's source: count such statements apart). THE CARD IS WHAT COUNTS. Prove the row's statement (the work); the ties are given (YtcaajeajakbooaaGreatDoorTie.lean); close each card by the builder's one call (the guide's Derived/Test/ToyasCard.lean, 'card_holds'). Laid BY PROGRAM, IN A SANDBOX (cutbox-door.mjs). By AI agents, Wed Nov 11 2026. No macro, syntax, notation, axiom, sorry.
-/
import Derived.Test.YtcaajeajakbooaaGreatDoorRows
import GoSem.ClaimSeven
namespace Go.Proofs.YtcaajeajakbooaaGreatDoor
namespace Rows

/-- THE TIED CARD OF 'rosettalaw45.RemedyCosts'. -/
def remedyCostsCard : Claim7 := { stood := { row := remedyCostsRow, standIns := [], harness := (true, "2c03351200d5103e144c84763df70f945443fd909f23e00c4932c40bfa4a09b0"), looks := true }, kinds := [], alts := [], laidByText := true, laidKinds := [.data, .data, .data, .data, .sentinel, .sentinel, .pinned], laidTests := true, laidLooks := .later }
def RemedyCostsCardSaid : Prop := Claim7.holds Tryz.pinned (.plain (OpenSpec.ofChange remedyCostsSpec)) remedyCostsCard

/-- THE SECOND FORM's CARD OF 'rosettalaw45.RemedyCosts'. -/
def remedyCostsUptoCard : Claim7 := { stood := { row := remedyCostsUptoRow, standIns := [], harness := (true, "2c03351200d5103e144c84763df70f945443fd909f23e00c4932c40bfa4a09b0"), looks := true }, kinds := [], alts := [], laidByText := true, laidKinds := [.data, .data, .data, .data, .sentinel, .sentinel, .pinned], laidTests := true, laidLooks := .later }
def RemedyCostsUptoCardSaid : Prop := Claim7.holds Tryz.pinned (.plain (OpenSpec.upto remedyCostsSpec)) remedyCostsUptoCard
end Rows
end Go.Proofs.YtcaajeajakbooaaGreatDoor
