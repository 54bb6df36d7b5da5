/-
  DERIVED. GIVEN WITH THE SEED: THE CARDS: each row of YtnbnfcobdaadfaaGreatDoorRows.lean that lists a variable, with what it lists TIED to the program's text (the seventh form; the later family's looks); each row that meets fmt, with fmt's text TOLD by the authors' own Lean function (tested against real Go, not proved from fmt's source: count such statements apart). THE CARD IS WHAT COUNTS. Prove the row's statement (the work); the ties are given (YtnbnfcobdaadfaaGreatDoorTie.lean); close each card by the builder's one call (the guide's Derived/Test/ToyasCard.lean, 'card_holds'). Laid BY PROGRAM, IN A SANDBOX (cutbox-door.mjs). By AI agents, Wed Nov 11 2026. No macro, syntax, notation, axiom, sorry.
-/
import Derived.Test.YtnbnfcobdaadfaaGreatDoorRows
import GoSem.ClaimSeven
namespace Go.Proofs.YtnbnfcobdaadfaaGreatDoor
namespace Rows

/-- THE TIED CARD OF 'henkanlaw28.ConvertOthers'. -/
def convertOthersCard : Claim7 := { stood := { row := convertOthersRow, standIns := [], harness := (true, "5f82b4ed4ea8994c14bf220ca6713ea15c3fc7c2087b27f93fc423418d5ba44e"), looks := true }, kinds := [], alts := [], laidByText := true, laidKinds := [.data, .data, .data, .data, .data, .widerDeep, .wider, .widerDeep, .pinned], laidTests := true, laidLooks := .later }
def ConvertOthersCardSaid : Prop := Claim7.holds Tryz.pinned (.plain (OpenSpec.ofChange convertOthersSpec)) convertOthersCard

/-- THE SECOND FORM's CARD OF 'henkanlaw28.ConvertOthers'. -/
def convertOthersUptoCard : Claim7 := { stood := { row := convertOthersUptoRow, standIns := [], harness := (true, "5f82b4ed4ea8994c14bf220ca6713ea15c3fc7c2087b27f93fc423418d5ba44e"), looks := true }, kinds := [], alts := [], laidByText := true, laidKinds := [.data, .data, .data, .data, .data, .widerDeep, .wider, .widerDeep, .pinned], laidTests := true, laidLooks := .later }
def ConvertOthersUptoCardSaid : Prop := Claim7.holds Tryz.pinned (.plain (OpenSpec.upto convertOthersSpec)) convertOthersUptoCard
end Rows
end Go.Proofs.YtnbnfcobdaadfaaGreatDoor
