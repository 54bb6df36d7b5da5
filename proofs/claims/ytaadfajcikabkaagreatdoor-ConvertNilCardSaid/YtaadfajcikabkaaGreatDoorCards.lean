/-
  DERIVED. GIVEN WITH THE SEED: THE CARDS: each row of YtaadfajcikabkaaGreatDoorRows.lean that lists a variable, with what it lists TIED to the program's text (the seventh form; the later family's looks); each row that meets fmt, with fmt's text TOLD by the authors' own Lean function (tested against real Go, not proved from fmt's source: count such statements apart). THE CARD IS WHAT COUNTS. Prove the row's statement (the work); the ties are given (YtaadfajcikabkaaGreatDoorTie.lean); close each card by the builder's one call (the guide's Derived/Test/ToyasCard.lean, 'card_holds'). Laid BY PROGRAM, IN A SANDBOX (cutbox-door.mjs). By AI agents, Wed Nov 11 2026. No macro, syntax, notation, axiom, sorry.
-/
import Derived.Test.YtaadfajcikabkaaGreatDoorRows
import GoSem.ClaimSeven
namespace Go.Proofs.YtaadfajcikabkaaGreatDoor
namespace Rows

/-- THE TIED CARD OF 'henkanlaw28.ConvertKnown'. -/
def convertKnownCard : Claim7 := { stood := { row := convertKnownRow, standIns := [], harness := (true, "0762ecd98fba796e6f057e6d12f9bdbe80606a8ef69081b08508d1675d28aef2"), looks := true }, kinds := [], alts := [], laidByText := true, laidKinds := [.data, .data, .data, .data, .data, .widerDeep, .wider, .widerDeep, .pinned], laidTests := true, laidLooks := .later }
def ConvertKnownCardSaid : Prop := Claim7.holds Tryz.pinned (.plain (OpenSpec.ofChange convertKnownSpec)) convertKnownCard

/-- THE TIED CARD OF 'henkanlaw28.ConvertNil'. -/
def convertNilCard : Claim7 := { stood := { row := convertNilRow, standIns := [], harness := (true, "0762ecd98fba796e6f057e6d12f9bdbe80606a8ef69081b08508d1675d28aef2"), looks := true }, kinds := [], alts := [], laidByText := true, laidKinds := [.data, .data, .data, .data, .data, .widerDeep, .wider, .widerDeep, .pinned], laidTests := true, laidLooks := .later }
def ConvertNilCardSaid : Prop := Claim7.holds Tryz.pinned (.plain (OpenSpec.ofChange convertNilSpec)) convertNilCard

/-- THE SECOND FORM's CARD OF 'henkanlaw28.ConvertKnown'. -/
def convertKnownUptoCard : Claim7 := { stood := { row := convertKnownUptoRow, standIns := [], harness := (true, "0762ecd98fba796e6f057e6d12f9bdbe80606a8ef69081b08508d1675d28aef2"), looks := true }, kinds := [], alts := [], laidByText := true, laidKinds := [.data, .data, .data, .data, .data, .widerDeep, .wider, .widerDeep, .pinned], laidTests := true, laidLooks := .later }
def ConvertKnownUptoCardSaid : Prop := Claim7.holds Tryz.pinned (.plain (OpenSpec.upto convertKnownSpec)) convertKnownUptoCard

/-- THE SECOND FORM's CARD OF 'henkanlaw28.ConvertNil'. -/
def convertNilUptoCard : Claim7 := { stood := { row := convertNilUptoRow, standIns := [], harness := (true, "0762ecd98fba796e6f057e6d12f9bdbe80606a8ef69081b08508d1675d28aef2"), looks := true }, kinds := [], alts := [], laidByText := true, laidKinds := [.data, .data, .data, .data, .data, .widerDeep, .wider, .widerDeep, .pinned], laidTests := true, laidLooks := .later }
def ConvertNilUptoCardSaid : Prop := Claim7.holds Tryz.pinned (.plain (OpenSpec.upto convertNilSpec)) convertNilUptoCard
end Rows
end Go.Proofs.YtaadfajcikabkaaGreatDoor
