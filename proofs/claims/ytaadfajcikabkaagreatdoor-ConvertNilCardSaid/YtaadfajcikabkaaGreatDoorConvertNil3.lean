import Derived.Test.YtaadfajcikabkaaGreatDoorRows
import Derived.JoinedOf
import Derived.SevenTiedAt
set_option linter.unusedVariables false
set_option linter.unusedSimpArgs false
set_option linter.unusedSectionVars false
namespace Go.Proofs.YtaadfajcikabkaaGreatDoor
theorem varsNamed4 : Tryz.prog.varsNamed 4 = Rows.convertNilRow.named := by kernel_rfl
end Go.Proofs.YtaadfajcikabkaaGreatDoor
