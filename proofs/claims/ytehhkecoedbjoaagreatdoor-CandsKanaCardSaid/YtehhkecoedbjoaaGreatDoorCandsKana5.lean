import Derived.Test.YtehhkecoedbjoaaGreatDoorRows
import Derived.JoinedOf
import Derived.Test.YtehhkecoedbjoaaGreatDoorFM
import Derived.Test.YtehhkecoedbjoaaGreatDoorEv18
set_option linter.unusedVariables false
set_option linter.unusedSimpArgs false
set_option linter.unusedSectionVars false
namespace Go.Proofs.YtehhkecoedbjoaaGreatDoor
theorem goes3 : false = Rows.candsKanaRow.goesBy Tryz.prog := Ev.goesBy_no noGo rfl
end Go.Proofs.YtehhkecoedbjoaaGreatDoor
