import Derived.Test.YtebnellffbcgdaaGreatDoorRows
import Derived.SevenTiedAt
set_option linter.unusedVariables false
set_option linter.unusedSimpArgs false
set_option linter.unusedSectionVars false
namespace Go.Proofs.YtebnellffbcgdaaGreatDoor
theorem goes3 : false = Rows.candsFindsRow.goesBy Tryz.prog := by kernel_rfl
end Go.Proofs.YtebnellffbcgdaaGreatDoor
