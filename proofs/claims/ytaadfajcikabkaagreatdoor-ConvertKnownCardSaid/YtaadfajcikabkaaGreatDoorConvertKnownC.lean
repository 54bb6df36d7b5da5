/-
  ConvertKnown of the given statements, proved of the given program: the call returns true and leaves its arguments as they were. Conditions: none beside what the statement itself asks (its listed variables as the program's text lays them).
-/
import Derived.Test.YtaadfajcikabkaaGreatDoorCards
import Derived.Test.YtaadfajcikabkaaGreatDoorTie
import Derived.Test.YtaadfajcikabkaaGreatDoorConvertKnownR
import Derived.Test.YtaadfajcikabkaaGreatDoorKC
import Derived.Test.YtaadfajcikabkaaGreatDoorConvertKnown5
import Derived.Test.YtaadfajcikabkaaGreatDoorConvertKnown6
import Derived.SevenTiedAt
set_option linter.unusedVariables false
set_option linter.unusedSimpArgs false
set_option linter.unusedSectionVars false
namespace Go.Proofs.YtaadfajcikabkaaGreatDoor
open Go.ChangeShapes Go.WideShapes Go.ChangeAt Go.RowKit
theorem convertKnown_card : Rows.ConvertKnownCardSaid :=
  Claim7.holds_tied_plain_at .later [] [.data, .data, .data, .data, .data, .widerDeep, .wider, .widerDeep, .pinned] true (true, "0762ecd98fba796e6f057e6d12f9bdbe80606a8ef69081b08508d1675d28aef2") true
    convertKnown_holds (fun _ h => by cases h) wf3 (fun _ h => by cases h) convertKnown_row_tie rfl ⟨rfl, rfl⟩ mainIs5 rfl
    (fun f fn hf hfn => by
      obtain rfl : f = 3 := Option.some.inj ((show Tryz.prog.funcNamed Rows.convertKnownRow.func = some 3 by kernel_rfl).symm.trans hf) |>.symm
      obtain rfl : fn = Tryz.f3 := (Option.some.inj (Tryz.func3.symm.trans hfn)).symm
      exact ⟨looks0, fun j t ht => by
        rw [Tryz.params3] at ht
        simp at ht⟩)
    goes3
#print axioms convertKnown_card
end Go.Proofs.YtaadfajcikabkaaGreatDoor
