import Derived.Test.YtebnellffbcgdaaGreatDoorRows
import Derived.JoinedOf
set_option linter.unusedVariables false
set_option linter.unusedSimpArgs false
set_option linter.unusedSectionVars false
namespace Go.Proofs.YtebnellffbcgdaaGreatDoor
theorem varsNamed5 : Tryz.prog.varsNamed 5 = Rows.candsKnownRow.named := by kernel_rfl
end Go.Proofs.YtebnellffbcgdaaGreatDoor
