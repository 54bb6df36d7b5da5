/-
  DERIVED. GIVEN WITH THE SEED: THE CARDS: each row of YtebnellffbcgdaaGreatDoorRows.lean that lists a variable, with what it lists TIED to the program's text (the seventh form; the later family's looks); each row that meets fmt, with fmt's text TOLD by the authors' own Lean function (tested against real Go, not proved from fmt's source: count such statements apart). THE CARD IS WHAT COUNTS. Prove the row's statement (the work); the ties are given (YtebnellffbcgdaaGreatDoorTie.lean); close each card by the builder's one call (the guide's Derived/Test/ToyasCard.lean, 'card_holds'). Laid BY PROGRAM, IN A SANDBOX (cutbox-door.mjs). By AI agents, Wed Nov 11 2026. No macro, syntax, notation, axiom, sorry.
-/
import Derived.Test.YtebnellffbcgdaaGreatDoorRows
import GoSem.ClaimSeven
namespace Go.Proofs.YtebnellffbcgdaaGreatDoor
namespace Rows

/-- THE TIED CARD OF 'henkanlaw26.CandsFinds'. -/
def candsFindsCard : Claim7 := { stood := { row := candsFindsRow, standIns := [], harness := (true, "10dedc4b7ec5f43d81c2eff5edf8404be15da74d544a894eca7b6a1f2b309e8a"), looks := true }, kinds := [], alts := [], laidByText := true, laidKinds := [.data, .data, .data, .data, .data, .widerDeep, .wider, .widerDeep, .pinned], laidTests := true, laidLooks := .later }
def CandsFindsCardSaid : Prop := Claim7.holds Tryz.pinned (.plain (OpenSpec.ofChange candsFindsSpec)) candsFindsCard

/-- THE TIED CARD OF 'henkanlaw26.CandsNone'. -/
def candsNoneCard : Claim7 := { stood := { row := candsNoneRow, standIns := [], harness := (true, "10dedc4b7ec5f43d81c2eff5edf8404be15da74d544a894eca7b6a1f2b309e8a"), looks := true }, kinds := [], alts := [], laidByText := true, laidKinds := [.data, .data, .data, .data, .data, .widerDeep, .wider, .widerDeep, .pinned], laidTests := true, laidLooks := .later }
def CandsNoneCardSaid : Prop := Claim7.holds Tryz.pinned (.plain (OpenSpec.ofChange candsNoneSpec)) candsNoneCard

/-- THE TIED CARD OF 'henkanlaw26.CandsKnown'. -/
def candsKnownCard : Claim7 := { stood := { row := candsKnownRow, standIns := [], harness := (true, "10dedc4b7ec5f43d81c2eff5edf8404be15da74d544a894eca7b6a1f2b309e8a"), looks := true }, kinds := [], alts := [], laidByText := true, laidKinds := [.data, .data, .data, .data, .data, .widerDeep, .wider, .widerDeep, .pinned], laidTests := true, laidLooks := .later }
def CandsKnownCardSaid : Prop := Claim7.holds Tryz.pinned (.plain (OpenSpec.ofChange candsKnownSpec)) candsKnownCard

/-- THE SECOND FORM's CARD OF 'henkanlaw26.CandsFinds'. -/
def candsFindsUptoCard : Claim7 := { stood := { row := candsFindsUptoRow, standIns := [], harness := (true, "10dedc4b7ec5f43d81c2eff5edf8404be15da74d544a894eca7b6a1f2b309e8a"), looks := true }, kinds := [], alts := [], laidByText := true, laidKinds := [.data, .data, .data, .data, .data, .widerDeep, .wider, .widerDeep, .pinned], laidTests := true, laidLooks := .later }
def CandsFindsUptoCardSaid : Prop := Claim7.holds Tryz.pinned (.plain (OpenSpec.upto candsFindsSpec)) candsFindsUptoCard

/-- THE SECOND FORM's CARD OF 'henkanlaw26.CandsNone'. -/
def candsNoneUptoCard : Claim7 := { stood := { row := candsNoneUptoRow, standIns := [], harness := (true, "10dedc4b7ec5f43d81c2eff5edf8404be15da74d544a894eca7b6a1f2b309e8a"), looks := true }, kinds := [], alts := [], laidByText := true, laidKinds := [.data, .data, .data, .data, .data, .widerDeep, .wider, .widerDeep, .pinned], laidTests := true, laidLooks := .later }
def CandsNoneUptoCardSaid : Prop := Claim7.holds Tryz.pinned (.plain (OpenSpec.upto candsNoneSpec)) candsNoneUptoCard

/-- THE SECOND FORM's CARD OF 'henkanlaw26.CandsKnown'. -/
def candsKnownUptoCard : Claim7 := { stood := { row := candsKnownUptoRow, standIns := [], harness := (true, "10dedc4b7ec5f43d81c2eff5edf8404be15da74d544a894eca7b6a1f2b309e8a"), looks := true }, kinds := [], alts := [], laidByText := true, laidKinds := [.data, .data, .data, .data, .data, .widerDeep, .wider, .widerDeep, .pinned], laidTests := true, laidLooks := .later }
def CandsKnownUptoCardSaid : Prop := Claim7.holds Tryz.pinned (.plain (OpenSpec.upto candsKnownSpec)) candsKnownUptoCard
end Rows
end Go.Proofs.YtebnellffbcgdaaGreatDoor
