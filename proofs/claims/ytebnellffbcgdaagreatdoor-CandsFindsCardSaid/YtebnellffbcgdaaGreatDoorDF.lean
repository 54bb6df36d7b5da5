/-
  henkanlaw26.CandsFinds, proved of the given program: candidates are found by their texts as the document says, for every list and every text. Conditions: none beside what the statement itself asks (its listed variables as the program's text lays them).
-/
import Derived.Test.YtebnellffbcgdaaGreatDoorCards
import Derived.Test.YtebnellffbcgdaaGreatDoorTie
import Derived.Test.YtebnellffbcgdaaGreatDoorD
import Derived.Test.YtebnellffbcgdaaGreatDoorKC
import Derived.Test.YtebnellffbcgdaaGreatDoorDD
import Derived.Test.YtebnellffbcgdaaGreatDoorDE
import Derived.SevenTiedAt
set_option linter.unusedVariables false
set_option linter.unusedSimpArgs false
set_option linter.unusedSectionVars false
namespace Go.Proofs.YtebnellffbcgdaaGreatDoor
open Go.ChangeShapes Go.WideShapes Go.ChangeAt Go.RowKit
theorem finds_card : Rows.CandsFindsCardSaid :=
  Claim7.holds_tied_plain_at .later [] [.data, .data, .data, .data, .data, .widerDeep, .wider, .widerDeep, .pinned] true (true, "10dedc4b7ec5f43d81c2eff5edf8404be15da74d544a894eca7b6a1f2b309e8a") true
    finds_holds (fun _ h => by cases h) wf3 (fun _ h => by cases h) candsFinds_row_tie rfl ⟨rfl, rfl⟩ mainIs5 rfl
    (fun f fn hf hfn => by
      obtain rfl : f = 3 := Option.some.inj ((show Tryz.prog.funcNamed Rows.candsFindsRow.func = some 3 by kernel_rfl).symm.trans hf) |>.symm
      obtain rfl : fn = Tryz.f3 := (Option.some.inj (Tryz.func3.symm.trans hfn)).symm
      exact ⟨looks0, fun j t ht => by
        rw [Tryz.params3] at ht
        have h3 : t = 22 ∨ t = 9 := by
          rcases j with _ | _ | j <;> simp at ht
          · exact .inl ht.symm
          · exact .inr ht.symm
        rcases h3 with rfl | rfl
        · exact (show Tryz.prog.wantsStandIn 22 = false by kernel_rfl)
        · exact (show Tryz.prog.wantsStandIn 9 = false by kernel_rfl)⟩)
    goes3
#print axioms finds_card
end Go.Proofs.YtebnellffbcgdaaGreatDoor
