import Derived.Test.YtebnellffbcgdaaGreatDoorB
set_option linter.unusedVariables false
set_option linter.unusedSimpArgs false
set_option linter.unusedSectionVars false
namespace Go.Proofs.YtebnellffbcgdaaGreatDoor
open Go.ChangeShapes Go.WideShapes Go.ChangeAt Go.RowKit
theorem looks0 : true = Tryz.prog.looks [] := by kernel_rfl
theorem mainIs5 : Tryz.prog.mainIs = some (true, "10dedc4b7ec5f43d81c2eff5edf8404be15da74d544a894eca7b6a1f2b309e8a".toList) := by kernel_rfl
end Go.Proofs.YtebnellffbcgdaaGreatDoor
