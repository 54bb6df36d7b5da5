import Derived.Test.YtaadfajcikabkaaGreatDoorRows
import Derived.JoinedOf
import Derived.SevenTiedAt
set_option linter.unusedVariables false
set_option linter.unusedSimpArgs false
set_option linter.unusedSectionVars false
namespace Go.Proofs.YtaadfajcikabkaaGreatDoor
theorem inPlace4 : Tryz.prog.inPlace 4 = Rows.convertNilRow.inPlace := by kernel_rfl
end Go.Proofs.YtaadfajcikabkaaGreatDoor
