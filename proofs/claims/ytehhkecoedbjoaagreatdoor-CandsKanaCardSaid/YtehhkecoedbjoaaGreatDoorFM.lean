import Derived.Test.YtehhkecoedbjoaaGreatDoorRows
import Derived.JoinedOf
import GoSem.ClaimGoes
set_option linter.unusedVariables false
set_option linter.unusedSimpArgs false
set_option linter.unusedSectionVars false
namespace Go.Proofs.YtehhkecoedbjoaaGreatDoor
theorem mayEnter : Tryz.prog.mayEnter = true := by kernel_rfl
theorem noGo : Tryz.prog.funcs.any Func.goes = false := by kernel_rfl
end Go.Proofs.YtehhkecoedbjoaaGreatDoor
