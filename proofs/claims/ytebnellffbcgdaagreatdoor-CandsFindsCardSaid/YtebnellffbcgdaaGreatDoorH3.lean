import Derived.Test.YtebnellffbcgdaaGreatDoorRows
import Derived.JoinedOf
set_option linter.unusedVariables false
set_option linter.unusedSimpArgs false
set_option linter.unusedSectionVars false
namespace Go.Proofs.YtebnellffbcgdaaGreatDoor
theorem varsNamed3 : Tryz.prog.varsNamed 3 = Rows.candsFindsRow.named := by kernel_rfl
end Go.Proofs.YtebnellffbcgdaaGreatDoor
