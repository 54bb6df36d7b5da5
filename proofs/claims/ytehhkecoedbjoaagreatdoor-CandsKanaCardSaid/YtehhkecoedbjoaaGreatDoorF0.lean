import Derived.Test.YtehhkecoedbjoaaGreatDoorRows
import Derived.JoinedOf
set_option linter.unusedVariables false
set_option linter.unusedSimpArgs false
set_option linter.unusedSectionVars false
namespace Go.Proofs.YtehhkecoedbjoaaGreatDoor
theorem laidOut : laidOutB Tryz.prog = true := by kernel_rfl
theorem mapsRowed : Go.mapsRowed Tryz.prog = true := by kernel_rfl
end Go.Proofs.YtehhkecoedbjoaaGreatDoor
