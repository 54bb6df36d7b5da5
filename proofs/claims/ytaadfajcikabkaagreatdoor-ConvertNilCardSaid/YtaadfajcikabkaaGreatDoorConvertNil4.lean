import Derived.Test.YtaadfajcikabkaaGreatDoorF0
import Derived.Test.YtaadfajcikabkaaGreatDoorFM
import Derived.Test.YtaadfajcikabkaaGreatDoorConvertNil1
import Derived.Test.YtaadfajcikabkaaGreatDoorConvertNil2
import Derived.Test.YtaadfajcikabkaaGreatDoorConvertNil3
set_option linter.unusedVariables false
set_option linter.unusedSimpArgs false
set_option linter.unusedSectionVars false
namespace Go.Proofs.YtaadfajcikabkaaGreatDoor
theorem recurses4 : Tryz.prog.recurses 4 = true := by unfold Program.recurses; rw [unfollowed4]; rfl
theorem facts4 : joinedFacts Tryz.prog 4 Tryz.f4 Rows.convertNilSpec Rows.convertNilRow = true := by
  unfold joinedFacts
  rw [laidOut, mapsRowed, inPlace4, unfollowed4, recurses4, varsNamed4, mayEnter]
  kernel_rfl
end Go.Proofs.YtaadfajcikabkaaGreatDoor
