/-
  henkanlaw26.CandsNone, proved of the given program: without a lattice there are no candidates, for every span, day and number. Conditions: none beside what the statement itself asks (its listed variables as the program's text lays them).
-/
import Derived.Test.YtebnellffbcgdaaGreatDoorCards
import Derived.Test.YtebnellffbcgdaaGreatDoorTie
import Derived.Test.YtebnellffbcgdaaGreatDoorN
import Derived.Test.YtebnellffbcgdaaGreatDoorKC
import Derived.Test.YtebnellffbcgdaaGreatDoorND
import Derived.Test.YtebnellffbcgdaaGreatDoorNE
import Derived.SevenTiedAt
set_option linter.unusedVariables false
set_option linter.unusedSimpArgs false
set_option linter.unusedSectionVars false
namespace Go.Proofs.YtebnellffbcgdaaGreatDoor
open Go.ChangeShapes Go.WideShapes Go.ChangeAt Go.RowKit
theorem none_card : Rows.CandsNoneCardSaid :=
  Claim7.holds_tied_plain_at .later [] [.data, .data, .data, .data, .data, .widerDeep, .wider, .widerDeep, .pinned] true (true, "10dedc4b7ec5f43d81c2eff5edf8404be15da74d544a894eca7b6a1f2b309e8a") true
    none_holds (fun _ h => by cases h) wf4 (fun _ h => by cases h) candsNone_row_tie rfl ⟨rfl, rfl⟩ mainIs5 rfl
    (fun f fn hf hfn => by
      obtain rfl : f = 4 := Option.some.inj ((show Tryz.prog.funcNamed Rows.candsNoneRow.func = some 4 by kernel_rfl).symm.trans hf) |>.symm
      obtain rfl : fn = Tryz.f4 := (Option.some.inj (Tryz.func4.symm.trans hfn)).symm
      exact ⟨looks0, fun j t ht => by
        rw [Tryz.params4] at ht
        have h3 : t = 27 ∨ t = 3 := by
          rcases j with _ | _ | _ | j <;> simp at ht
          · exact .inl ht.symm
          · exact .inr ht.symm
          · exact .inr ht.symm
        rcases h3 with rfl | rfl
        · exact (show Tryz.prog.wantsStandIn 27 = false by kernel_rfl)
        · exact (show Tryz.prog.wantsStandIn 3 = false by kernel_rfl)⟩)
    goes4
#print axioms none_card
end Go.Proofs.YtebnellffbcgdaaGreatDoor
