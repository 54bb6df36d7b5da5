/-
  DERIVED. GIVEN WITH THE SEED: THE CARDS: each row of YtcooopkognhciaaGreatDoorRows.lean that lists a variable, with what it lists TIED to the program's text (the seventh form; the later family's looks); each row that meets fmt, with fmt's text TOLD by the authors' own Lean function (tested against real Go, not proved from fmt's source: count such statements apart). THE CARD IS WHAT COUNTS. Prove the row's statement (the work); the ties are given (YtcooopkognhciaaGreatDoorTie.lean); close each card by the builder's one call (the guide's Derived/Test/ToyasCard.lean, 'card_holds'). Laid BY PROGRAM, IN A SANDBOX (cutbox-door.mjs). By AI agents, Wed Nov 11 2026. No macro, syntax, notation, axiom, sorry.
-/
import Derived.Test.YtcooopkognhciaaGreatDoorRows
import GoSem.ClaimSeven
namespace Go.Proofs.YtcooopkognhciaaGreatDoor
namespace Rows

/-- THE TIED CARD OF 'henkanlaw28.ConvertFits'. -/
def convertFitsCard : Claim7 := { stood := { row := convertFitsRow, standIns := [], harness := (true, "14122b40d2f1bf31082c3b0e623da28f0951793d70a8035478cfc71776344869"), looks := true }, kinds := [], alts := [], laidByText := true, laidKinds := [.data, .data, .data, .data, .data, .widerDeep, .wider, .widerDeep, .pinned], laidTests := true, laidLooks := .later }
def ConvertFitsCardSaid : Prop := Claim7.holds Tryz.pinned (.plain (OpenSpec.ofChange convertFitsSpec)) convertFitsCard

/-- THE SECOND FORM's CARD OF 'henkanlaw28.ConvertFits'. -/
def convertFitsUptoCard : Claim7 := { stood := { row := convertFitsUptoRow, standIns := [], harness := (true, "14122b40d2f1bf31082c3b0e623da28f0951793d70a8035478cfc71776344869"), looks := true }, kinds := [], alts := [], laidByText := true, laidKinds := [.data, .data, .data, .data, .data, .widerDeep, .wider, .widerDeep, .pinned], laidTests := true, laidLooks := .later }
def ConvertFitsUptoCardSaid : Prop := Claim7.holds Tryz.pinned (.plain (OpenSpec.upto convertFitsSpec)) convertFitsUptoCard
end Rows
end Go.Proofs.YtcooopkognhciaaGreatDoor
