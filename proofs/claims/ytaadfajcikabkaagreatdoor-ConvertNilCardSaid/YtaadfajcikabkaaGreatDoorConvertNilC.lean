/-
  ConvertNil of the given statements, proved of the given program: the call returns true and leaves its arguments as they were. Conditions: none beside what the statement itself asks (its listed variables as the program's text lays them).
-/
import Derived.Test.YtaadfajcikabkaaGreatDoorCards
import Derived.Test.YtaadfajcikabkaaGreatDoorTie
import Derived.Test.YtaadfajcikabkaaGreatDoorConvertNilR
import Derived.Test.YtaadfajcikabkaaGreatDoorKC
import Derived.Test.YtaadfajcikabkaaGreatDoorConvertNil5
import Derived.Test.YtaadfajcikabkaaGreatDoorConvertNil6
import Derived.SevenTiedAt
set_option linter.unusedVariables false
set_option linter.unusedSimpArgs false
set_option linter.unusedSectionVars false
namespace Go.Proofs.YtaadfajcikabkaaGreatDoor
open Go.ChangeShapes Go.WideShapes Go.ChangeAt Go.RowKit
theorem convertNil_card : Rows.ConvertNilCardSaid :=
  Claim7.holds_tied_plain_at .later [] [.data, .data, .data, .data, .data, .widerDeep, .wider, .widerDeep, .pinned] true (true, "0762ecd98fba796e6f057e6d12f9bdbe80606a8ef69081b08508d1675d28aef2") true
    convertNil_holds (fun _ h => by cases h) wf4 (fun _ h => by cases h) convertNil_row_tie rfl ⟨rfl, rfl⟩ mainIs5 rfl
    (fun f fn hf hfn => by
      obtain rfl : f = 4 := Option.some.inj ((show Tryz.prog.funcNamed Rows.convertNilRow.func = some 4 by kernel_rfl).symm.trans hf) |>.symm
      obtain rfl : fn = Tryz.f4 := (Option.some.inj (Tryz.func4.symm.trans hfn)).symm
      exact ⟨looks0, fun j t ht => by
        rw [Tryz.params4] at ht
        have h3 : t = 3 ∨ t = 9 := by
          rcases j with _ | _ | j <;> simp at ht
          · exact .inr ht.symm
          · exact .inl ht.symm
        rcases h3 with rfl | rfl
        · exact (show Tryz.prog.wantsStandIn 3 = false by kernel_rfl)
        · exact (show Tryz.prog.wantsStandIn 9 = false by kernel_rfl)⟩)
    goes4
#print axioms convertNil_card
end Go.Proofs.YtaadfajcikabkaaGreatDoor
