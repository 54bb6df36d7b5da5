/-
  DERIVED. GIVEN WITH THE SEED: THE CARDS: each row of YtfflnenadmpdkaaGreatDoorRows.lean that lists a variable, with what it lists TIED to the program's text (the seventh form; the later family's looks); each row that meets fmt, with fmt's text TOLD by the authors' own Lean function (tested against real Go, not proved from fmt's source: count such statements apart). THE CARD IS WHAT COUNTS. Prove the row's statement (the work); the ties are given (YtfflnenadmpdkaaGreatDoorTie.lean); close each card by the builder's one call (the guide's Derived/Test/ToyasCard.lean, 'card_holds'). Laid BY PROGRAM, IN A SANDBOX (cutbox-door.mjs). By AI agents, Wed Nov 11 2026. No macro, syntax, notation, axiom, sorry.
-/
import Derived.Test.YtfflnenadmpdkaaGreatDoorRows
import GoSem.ClaimSeven
namespace Go.Proofs.YtfflnenadmpdkaaGreatDoor
namespace Rows

/-- THE TIED CARD OF 'henkanlaw28.ConvertCopies'. -/
def convertCopiesCard : Claim7 := { stood := { row := convertCopiesRow, standIns := [], harness := (true, "0f18da961019ff85314859911536a7861ff8cdb7a6668b565f282b12572ae726"), looks := true }, kinds := [], alts := [], laidByText := true, laidKinds := [.data, .data, .data, .data, .data, .widerDeep, .wider, .widerDeep, .pinned], laidTests := true, laidLooks := .later }
def ConvertCopiesCardSaid : Prop := Claim7.holds Tryz.pinned (.plain (OpenSpec.ofChange convertCopiesSpec)) convertCopiesCard

/-- THE SECOND FORM's CARD OF 'henkanlaw28.ConvertCopies'. -/
def convertCopiesUptoCard : Claim7 := { stood := { row := convertCopiesUptoRow, standIns := [], harness := (true, "0f18da961019ff85314859911536a7861ff8cdb7a6668b565f282b12572ae726"), looks := true }, kinds := [], alts := [], laidByText := true, laidKinds := [.data, .data, .data, .data, .data, .widerDeep, .wider, .widerDeep, .pinned], laidTests := true, laidLooks := .later }
def ConvertCopiesUptoCardSaid : Prop := Claim7.holds Tryz.pinned (.plain (OpenSpec.upto convertCopiesSpec)) convertCopiesUptoCard
end Rows
end Go.Proofs.YtfflnenadmpdkaaGreatDoor
