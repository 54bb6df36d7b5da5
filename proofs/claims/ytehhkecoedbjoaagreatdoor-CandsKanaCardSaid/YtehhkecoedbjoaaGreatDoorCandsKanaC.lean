/-
  CandsKana of the given statements, proved of the given program: the call returns true and leaves its arguments as they were. Conditions: none beside what the statement itself asks (its listed variables as the program's text lays them).
-/
import Derived.Test.YtehhkecoedbjoaaGreatDoorCards
import Derived.Test.YtehhkecoedbjoaaGreatDoorTie
import Derived.Test.YtehhkecoedbjoaaGreatDoorCandsKanaR
import Derived.Test.YtehhkecoedbjoaaGreatDoorKC
import Derived.Test.YtehhkecoedbjoaaGreatDoorCandsKana5
import Derived.Test.YtehhkecoedbjoaaGreatDoorCandsKana6
import Derived.SevenTiedAt
set_option linter.unusedVariables false
set_option linter.unusedSimpArgs false
set_option linter.unusedSectionVars false
namespace Go.Proofs.YtehhkecoedbjoaaGreatDoor
open Go.ChangeShapes Go.WideShapes Go.ChangeAt Go.RowKit
theorem candsKana_card : Rows.CandsKanaCardSaid :=
  Claim7.holds_tied_plain_at .later [] [.data, .data, .data, .data, .data, .widerDeep, .wider, .widerDeep, .pinned] true (true, "b51dfc0a62bbc537d3982b1a9529c4b71c54d8ce5e2e1ca166e68998f38409e5") true
    candsKana_holds (fun _ h => by cases h) wf3 (fun _ h => by cases h) candsKana_row_tie rfl ⟨rfl, rfl⟩ mainIs5 rfl
    (fun f fn hf hfn => by
      obtain rfl : f = 3 := Option.some.inj ((show Tryz.prog.funcNamed Rows.candsKanaRow.func = some 3 by kernel_rfl).symm.trans hf) |>.symm
      obtain rfl : fn = Tryz.f3 := (Option.some.inj (Tryz.func3.symm.trans hfn)).symm
      exact ⟨looks0, fun j t ht => by
        rw [Tryz.params3] at ht
        have h3 : t = 9 := by
          rcases j with _ | j <;> simp at ht
          · exact ht.symm
        rcases h3 with rfl
        · exact (show Tryz.prog.wantsStandIn 9 = false by kernel_rfl)⟩)
    goes3
#print axioms candsKana_card
end Go.Proofs.YtehhkecoedbjoaaGreatDoor
