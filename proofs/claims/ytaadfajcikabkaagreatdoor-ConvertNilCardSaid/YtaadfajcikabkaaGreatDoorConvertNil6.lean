import Derived.Test.YtaadfajcikabkaaGreatDoorRows
import Derived.JoinedOf
import Derived.SevenTiedAt
set_option linter.unusedVariables false
set_option linter.unusedSimpArgs false
set_option linter.unusedSectionVars false
namespace Go.Proofs.YtaadfajcikabkaaGreatDoor
theorem wf4 : Rows.convertNilRow.wfByText (OpenSpec.ofChange Rows.convertNilSpec) = true := by kernel_rfl
end Go.Proofs.YtaadfajcikabkaaGreatDoor
