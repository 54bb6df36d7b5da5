import Derived.Test.YtebnellffbcgdaaGreatDoorRows
import Derived.SevenTiedAt
set_option linter.unusedVariables false
set_option linter.unusedSimpArgs false
set_option linter.unusedSectionVars false
namespace Go.Proofs.YtebnellffbcgdaaGreatDoor
theorem wf4 : Rows.candsNoneRow.wfByText (OpenSpec.ofChange Rows.candsNoneSpec) = true := by kernel_rfl
end Go.Proofs.YtebnellffbcgdaaGreatDoor
