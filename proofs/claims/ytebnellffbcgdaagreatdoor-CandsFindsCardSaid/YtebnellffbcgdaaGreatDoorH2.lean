import Derived.Test.YtebnellffbcgdaaGreatDoorRows
import Derived.JoinedOf
set_option linter.unusedVariables false
set_option linter.unusedSimpArgs false
set_option linter.unusedSectionVars false
namespace Go.Proofs.YtebnellffbcgdaaGreatDoor
theorem inPlace3 : Tryz.prog.inPlace 3 = Rows.candsFindsRow.inPlace := by kernel_rfl
end Go.Proofs.YtebnellffbcgdaaGreatDoor
