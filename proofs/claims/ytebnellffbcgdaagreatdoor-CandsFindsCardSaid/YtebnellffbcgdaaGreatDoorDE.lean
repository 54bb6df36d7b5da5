import Derived.Test.YtebnellffbcgdaaGreatDoorRows
import Derived.SevenTiedAt
set_option linter.unusedVariables false
set_option linter.unusedSimpArgs false
set_option linter.unusedSectionVars false
namespace Go.Proofs.YtebnellffbcgdaaGreatDoor
theorem wf3 : Rows.candsFindsRow.wfByText (OpenSpec.ofChange Rows.candsFindsSpec) = true := by kernel_rfl
end Go.Proofs.YtebnellffbcgdaaGreatDoor
