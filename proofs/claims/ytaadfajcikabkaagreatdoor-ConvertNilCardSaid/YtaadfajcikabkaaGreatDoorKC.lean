import Derived.Test.YtaadfajcikabkaaGreatDoorB
set_option linter.unusedVariables false
set_option linter.unusedSimpArgs false
set_option linter.unusedSectionVars false
namespace Go.Proofs.YtaadfajcikabkaaGreatDoor
open Go.ChangeShapes Go.WideShapes Go.ChangeAt Go.RowKit
theorem looks0 : true = Tryz.prog.looks [] := by kernel_rfl
theorem mainIs5 : Tryz.prog.mainIs = some (true, "0762ecd98fba796e6f057e6d12f9bdbe80606a8ef69081b08508d1675d28aef2".toList) := by kernel_rfl
end Go.Proofs.YtaadfajcikabkaaGreatDoor
