import Derived.Test.YtebnellffbcgdaaGreatDoorRows
import Derived.JoinedOf
set_option linter.unusedVariables false
set_option linter.unusedSimpArgs false
set_option linter.unusedSectionVars false
namespace Go.Proofs.YtebnellffbcgdaaGreatDoor
theorem unfollowed3 : Tryz.prog.unfollowed 3 = true := by kernel_rfl
end Go.Proofs.YtebnellffbcgdaaGreatDoor
