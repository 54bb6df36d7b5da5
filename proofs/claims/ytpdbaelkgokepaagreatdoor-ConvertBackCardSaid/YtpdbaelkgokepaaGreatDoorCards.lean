/-
  DERIVED. GIVEN WITH THE SEED: THE CARDS: each row of YtpdbaelkgokepaaGreatDoorRows.lean that lists a variable, with what it lists TIED to the program's text (the seventh form; the later family's looks); each row that meets fmt, with fmt's text TOLD by the authors' own Lean function (tested against real Go, not proved from fmt's source: count such statements apart). THE CARD IS WHAT COUNTS. Prove the row's statement (the work); the ties are given (YtpdbaelkgokepaaGreatDoorTie.lean); close each card by the builder's one call (the guide's Derived/Test/ToyasCard.lean, 'card_holds'). Laid BY PROGRAM, IN A SANDBOX (cutbox-door.mjs). By AI agents, Wed Nov 11 2026. No macro, syntax, notation, axiom, sorry.
-/
import Derived.Test.YtpdbaelkgokepaaGreatDoorRows
import GoSem.ClaimSeven
namespace Go.Proofs.YtpdbaelkgokepaaGreatDoor
namespace Rows

/-- THE TIED CARD OF 'henkanlaw28.ConvertBack'. -/
def convertBackCard : Claim7 := { stood := { row := convertBackRow, standIns := [], harness := (true, "c15d9cf901f1ec0f3fd0e2a5f26b8cab455b14844c5599a10fe4a278e8810150"), looks := true }, kinds := [], alts := [], laidByText := true, laidKinds := [.data, .data, .data, .data, .data, .widerDeep, .wider, .widerDeep, .pinned], laidTests := true, laidLooks := .later }
def ConvertBackCardSaid : Prop := Claim7.holds Tryz.pinned (.plain (OpenSpec.ofChange convertBackSpec)) convertBackCard

/-- THE SECOND FORM's CARD OF 'henkanlaw28.ConvertBack'. -/
def convertBackUptoCard : Claim7 := { stood := { row := convertBackUptoRow, standIns := [], harness := (true, "c15d9cf901f1ec0f3fd0e2a5f26b8cab455b14844c5599a10fe4a278e8810150"), looks := true }, kinds := [], alts := [], laidByText := true, laidKinds := [.data, .data, .data, .data, .data, .widerDeep, .wider, .widerDeep, .pinned], laidTests := true, laidLooks := .later }
def ConvertBackUptoCardSaid : Prop := Claim7.holds Tryz.pinned (.plain (OpenSpec.upto convertBackSpec)) convertBackUptoCard
end Rows
end Go.Proofs.YtpdbaelkgokepaaGreatDoor
