import Derived.Test.YtebnellffbcgdaaGreatDoorRows
import Derived.JoinedOf
set_option linter.unusedVariables false
set_option linter.unusedSimpArgs false
set_option linter.unusedSectionVars false
namespace Go.Proofs.YtebnellffbcgdaaGreatDoor
theorem varsNamed4 : Tryz.prog.varsNamed 4 = Rows.candsNoneRow.named := by kernel_rfl
end Go.Proofs.YtebnellffbcgdaaGreatDoor
