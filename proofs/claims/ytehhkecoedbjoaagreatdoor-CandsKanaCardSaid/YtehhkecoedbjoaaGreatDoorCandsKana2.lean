import Derived.Test.YtehhkecoedbjoaaGreatDoorRows
import Derived.JoinedOf
import Derived.SevenTiedAt
set_option linter.unusedVariables false
set_option linter.unusedSimpArgs false
set_option linter.unusedSectionVars false
namespace Go.Proofs.YtehhkecoedbjoaaGreatDoor
theorem inPlace3 : Tryz.prog.inPlace 3 = Rows.candsKanaRow.inPlace := by kernel_rfl
end Go.Proofs.YtehhkecoedbjoaaGreatDoor
