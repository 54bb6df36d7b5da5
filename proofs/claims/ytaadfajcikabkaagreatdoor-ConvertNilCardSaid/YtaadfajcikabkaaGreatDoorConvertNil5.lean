import Derived.Test.YtaadfajcikabkaaGreatDoorRows
import Derived.JoinedOf
import Derived.Test.YtaadfajcikabkaaGreatDoorFM
import Derived.Test.YtaadfajcikabkaaGreatDoorEv18
set_option linter.unusedVariables false
set_option linter.unusedSimpArgs false
set_option linter.unusedSectionVars false
namespace Go.Proofs.YtaadfajcikabkaaGreatDoor
theorem goes4 : false = Rows.convertNilRow.goesBy Tryz.prog := Ev.goesBy_no noGo rfl
end Go.Proofs.YtaadfajcikabkaaGreatDoor
