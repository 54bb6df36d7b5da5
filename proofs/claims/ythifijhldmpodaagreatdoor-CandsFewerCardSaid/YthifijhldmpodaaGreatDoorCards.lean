/-
  DERIVED. GIVEN WITH THE SEED: THE CARDS: each row of YthifijhldmpodaaGreatDoorRows.lean that lists a variable, with what it lists TIED to the program's text (the seventh form; the later family's looks); each row that meets fmt, with fmt's text TOLD by the authors' own Lean function (tested against real Go, not proved from fmt's source: count such statements apart). THE CARD IS WHAT COUNTS. Prove the row's statement (the work); the ties are given (YthifijhldmpodaaGreatDoorTie.lean); close each card by the builder's one call (the guide's Derived/Test/ToyasCard.lean, 'card_holds'). Laid BY PROGRAM, IN A SANDBOX (cutbox-door.mjs). By AI agents, Wed Nov 11 2026. No macro, syntax, notation, axiom, sorry.
-/
import Derived.Test.YthifijhldmpodaaGreatDoorRows
import GoSem.ClaimSeven
namespace Go.Proofs.YthifijhldmpodaaGreatDoor
namespace Rows

/-- THE TIED CARD OF 'henkanlaw26.CandsFirst'. -/
def candsFirstCard : Claim7 := { stood := { row := candsFirstRow, standIns := [], harness := (true, "d9249dffe06d0e76af2bedbe60333f2ec6e25a4cf81b6b1110759d9bf517cf2c"), looks := true }, kinds := [], alts := [], laidByText := true, laidKinds := [.data, .data, .data, .data, .data, .widerDeep, .wider, .widerDeep, .pinned], laidTests := true, laidLooks := .later }
def CandsFirstCardSaid : Prop := Claim7.holds Tryz.pinned (.plain (OpenSpec.ofChange candsFirstSpec)) candsFirstCard

/-- THE TIED CARD OF 'henkanlaw26.CandsOnce'. -/
def candsOnceCard : Claim7 := { stood := { row := candsOnceRow, standIns := [], harness := (true, "d9249dffe06d0e76af2bedbe60333f2ec6e25a4cf81b6b1110759d9bf517cf2c"), looks := true }, kinds := [], alts := [], laidByText := true, laidKinds := [.data, .data, .data, .data, .data, .widerDeep, .wider, .widerDeep, .pinned], laidTests := true, laidLooks := .later }
def CandsOnceCardSaid : Prop := Claim7.holds Tryz.pinned (.plain (OpenSpec.ofChange candsOnceSpec)) candsOnceCard

/-- THE TIED CARD OF 'henkanlaw26.CandsFewer'. -/
def candsFewerCard : Claim7 := { stood := { row := candsFewerRow, standIns := [], harness := (true, "d9249dffe06d0e76af2bedbe60333f2ec6e25a4cf81b6b1110759d9bf517cf2c"), looks := true }, kinds := [], alts := [], laidByText := true, laidKinds := [.data, .data, .data, .data, .data, .widerDeep, .wider, .widerDeep, .pinned], laidTests := true, laidLooks := .later }
def CandsFewerCardSaid : Prop := Claim7.holds Tryz.pinned (.plain (OpenSpec.ofChange candsFewerSpec)) candsFewerCard

/-- THE TIED CARD OF 'henkanlaw26.CandsForms'. -/
def candsFormsCard : Claim7 := { stood := { row := candsFormsRow, standIns := [], harness := (true, "d9249dffe06d0e76af2bedbe60333f2ec6e25a4cf81b6b1110759d9bf517cf2c"), looks := true }, kinds := [], alts := [], laidByText := true, laidKinds := [.data, .data, .data, .data, .data, .widerDeep, .wider, .widerDeep, .pinned], laidTests := true, laidLooks := .later }
def CandsFormsCardSaid : Prop := Claim7.holds Tryz.pinned (.plain (OpenSpec.ofChange candsFormsSpec)) candsFormsCard

/-- THE SECOND FORM's CARD OF 'henkanlaw26.CandsFirst'. -/
def candsFirstUptoCard : Claim7 := { stood := { row := candsFirstUptoRow, standIns := [], harness := (true, "d9249dffe06d0e76af2bedbe60333f2ec6e25a4cf81b6b1110759d9bf517cf2c"), looks := true }, kinds := [], alts := [], laidByText := true, laidKinds := [.data, .data, .data, .data, .data, .widerDeep, .wider, .widerDeep, .pinned], laidTests := true, laidLooks := .later }
def CandsFirstUptoCardSaid : Prop := Claim7.holds Tryz.pinned (.plain (OpenSpec.upto candsFirstSpec)) candsFirstUptoCard

/-- THE SECOND FORM's CARD OF 'henkanlaw26.CandsOnce'. -/
def candsOnceUptoCard : Claim7 := { stood := { row := candsOnceUptoRow, standIns := [], harness := (true, "d9249dffe06d0e76af2bedbe60333f2ec6e25a4cf81b6b1110759d9bf517cf2c"), looks := true }, kinds := [], alts := [], laidByText := true, laidKinds := [.data, .data, .data, .data, .data, .widerDeep, .wider, .widerDeep, .pinned], laidTests := true, laidLooks := .later }
def CandsOnceUptoCardSaid : Prop := Claim7.holds Tryz.pinned (.plain (OpenSpec.upto candsOnceSpec)) candsOnceUptoCard

/-- THE SECOND FORM's CARD OF 'henkanlaw26.CandsFewer'. -/
def candsFewerUptoCard : Claim7 := { stood := { row := candsFewerUptoRow, standIns := [], harness := (true, "d9249dffe06d0e76af2bedbe60333f2ec6e25a4cf81b6b1110759d9bf517cf2c"), looks := true }, kinds := [], alts := [], laidByText := true, laidKinds := [.data, .data, .data, .data, .data, .widerDeep, .wider, .widerDeep, .pinned], laidTests := true, laidLooks := .later }
def CandsFewerUptoCardSaid : Prop := Claim7.holds Tryz.pinned (.plain (OpenSpec.upto candsFewerSpec)) candsFewerUptoCard

/-- THE SECOND FORM's CARD OF 'henkanlaw26.CandsForms'. -/
def candsFormsUptoCard : Claim7 := { stood := { row := candsFormsUptoRow, standIns := [], harness := (true, "d9249dffe06d0e76af2bedbe60333f2ec6e25a4cf81b6b1110759d9bf517cf2c"), looks := true }, kinds := [], alts := [], laidByText := true, laidKinds := [.data, .data, .data, .data, .data, .widerDeep, .wider, .widerDeep, .pinned], laidTests := true, laidLooks := .later }
def CandsFormsUptoCardSaid : Prop := Claim7.holds Tryz.pinned (.plain (OpenSpec.upto candsFormsSpec)) candsFormsUptoCard
end Rows
end Go.Proofs.YthifijhldmpodaaGreatDoor
