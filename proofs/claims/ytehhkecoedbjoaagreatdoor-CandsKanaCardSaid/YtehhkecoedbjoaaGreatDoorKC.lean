import Derived.Test.YtehhkecoedbjoaaGreatDoorB
set_option linter.unusedVariables false
set_option linter.unusedSimpArgs false
set_option linter.unusedSectionVars false
namespace Go.Proofs.YtehhkecoedbjoaaGreatDoor
open Go.ChangeShapes Go.WideShapes Go.ChangeAt Go.RowKit
theorem looks0 : true = Tryz.prog.looks [] := by kernel_rfl
theorem mainIs5 : Tryz.prog.mainIs = some (true, "b51dfc0a62bbc537d3982b1a9529c4b71c54d8ce5e2e1ca166e68998f38409e5".toList) := by kernel_rfl
end Go.Proofs.YtehhkecoedbjoaaGreatDoor
