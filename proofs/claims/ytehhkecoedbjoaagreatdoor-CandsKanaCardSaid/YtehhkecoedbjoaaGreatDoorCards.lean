/-
  DERIVED. GIVEN WITH THE SEED: THE CARDS: each row of YtehhkecoedbjoaaGreatDoorRows.lean that lists a variable, with what it lists TIED to the program's text (the seventh form; the later family's looks); each row that meets fmt, with fmt's text TOLD by the authors' own Lean function (tested against real Go, not proved from fmt's source: count such statements apart). THE CARD IS WHAT COUNTS. Prove the row's statement (the work); the ties are given (YtehhkecoedbjoaaGreatDoorTie.lean); close each card by the builder's one call (the guide's Derived/Test/ToyasCard.lean, 'card_holds'). Laid BY PROGRAM, IN A SANDBOX (cutbox-door.mjs). By AI agents, Wed Nov 11 2026. No macro, syntax, notation, axiom, sorry.
-/
import Derived.Test.YtehhkecoedbjoaaGreatDoorRows
import GoSem.ClaimSeven
namespace Go.Proofs.YtehhkecoedbjoaaGreatDoor
namespace Rows

/-- THE TIED CARD OF 'henkanlaw26.CandsKana'. -/
def candsKanaCard : Claim7 := { stood := { row := candsKanaRow, standIns := [], harness := (true, "b51dfc0a62bbc537d3982b1a9529c4b71c54d8ce5e2e1ca166e68998f38409e5"), looks := true }, kinds := [], alts := [], laidByText := true, laidKinds := [.data, .data, .data, .data, .data, .widerDeep, .wider, .widerDeep, .pinned], laidTests := true, laidLooks := .later }
def CandsKanaCardSaid : Prop := Claim7.holds Tryz.pinned (.plain (OpenSpec.ofChange candsKanaSpec)) candsKanaCard

/-- THE SECOND FORM's CARD OF 'henkanlaw26.CandsKana'. -/
def candsKanaUptoCard : Claim7 := { stood := { row := candsKanaUptoRow, standIns := [], harness := (true, "b51dfc0a62bbc537d3982b1a9529c4b71c54d8ce5e2e1ca166e68998f38409e5"), looks := true }, kinds := [], alts := [], laidByText := true, laidKinds := [.data, .data, .data, .data, .data, .widerDeep, .wider, .widerDeep, .pinned], laidTests := true, laidLooks := .later }
def CandsKanaUptoCardSaid : Prop := Claim7.holds Tryz.pinned (.plain (OpenSpec.upto candsKanaSpec)) candsKanaUptoCard
end Rows
end Go.Proofs.YtehhkecoedbjoaaGreatDoor
