/-
  henkanlaw26.CandsKnown, proved of the given program: the chapter's examples: the call returns true. Conditions: none beside what the statement itself asks (its listed variables as the program's text lays them).
-/
import Derived.Test.YtebnellffbcgdaaGreatDoorCards
import Derived.Test.YtebnellffbcgdaaGreatDoorTie
import Derived.Test.YtebnellffbcgdaaGreatDoorK
import Derived.Test.YtebnellffbcgdaaGreatDoorKC
import Derived.Test.YtebnellffbcgdaaGreatDoorKD
import Derived.Test.YtebnellffbcgdaaGreatDoorKE
import Derived.SevenTiedAt
set_option linter.unusedVariables false
set_option linter.unusedSimpArgs false
set_option linter.unusedSectionVars false
namespace Go.Proofs.YtebnellffbcgdaaGreatDoor
open Go.ChangeShapes Go.WideShapes Go.ChangeAt Go.RowKit
theorem known_card : Rows.CandsKnownCardSaid :=
  Claim7.holds_tied_plain_at .later [] [.data, .data, .data, .data, .data, .widerDeep, .wider, .widerDeep, .pinned] true (true, "10dedc4b7ec5f43d81c2eff5edf8404be15da74d544a894eca7b6a1f2b309e8a") true
    known_holds (fun _ h => by cases h) wf5 (fun _ h => by cases h) candsKnown_row_tie rfl ⟨rfl, rfl⟩ mainIs5 rfl
    (fun f fn hf hfn => by
      obtain rfl : f = 5 := Option.some.inj ((show Tryz.prog.funcNamed Rows.candsKnownRow.func = some 5 by kernel_rfl).symm.trans hf) |>.symm
      obtain rfl : fn = Tryz.f5 := (Option.some.inj (Tryz.func5.symm.trans hfn)).symm
      exact ⟨looks0, fun j t ht => by
        rw [Tryz.params5] at ht
        simp at ht⟩)
    goes5
#print axioms known_card
end Go.Proofs.YtebnellffbcgdaaGreatDoor
