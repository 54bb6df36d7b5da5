import Derived.Test.YtaadfajcikabkaaGreatDoorF0
import Derived.Test.YtaadfajcikabkaaGreatDoorFM
import Derived.Test.YtaadfajcikabkaaGreatDoorConvertKnown1
import Derived.Test.YtaadfajcikabkaaGreatDoorConvertKnown2
import Derived.Test.YtaadfajcikabkaaGreatDoorConvertKnown3
set_option linter.unusedVariables false
set_option linter.unusedSimpArgs false
set_option linter.unusedSectionVars false
namespace Go.Proofs.YtaadfajcikabkaaGreatDoor
theorem recurses3 : Tryz.prog.recurses 3 = true := by unfold Program.recurses; rw [unfollowed3]; rfl
theorem facts3 : joinedFacts Tryz.prog 3 Tryz.f3 Rows.convertKnownSpec Rows.convertKnownRow = true := by
  unfold joinedFacts
  rw [laidOut, mapsRowed, inPlace3, unfollowed3, recurses3, varsNamed3, mayEnter]
  kernel_rfl
end Go.Proofs.YtaadfajcikabkaaGreatDoor
