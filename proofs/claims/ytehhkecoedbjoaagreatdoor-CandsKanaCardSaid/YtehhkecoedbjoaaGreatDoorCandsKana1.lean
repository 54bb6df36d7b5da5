import Derived.Test.YtehhkecoedbjoaaGreatDoorRows
import Derived.JoinedOf
import Derived.SevenTiedAt
set_option linter.unusedVariables false
set_option linter.unusedSimpArgs false
set_option linter.unusedSectionVars false
namespace Go.Proofs.YtehhkecoedbjoaaGreatDoor
theorem unfollowed3 : Tryz.prog.unfollowed 3 = true := by kernel_rfl
end Go.Proofs.YtehhkecoedbjoaaGreatDoor
