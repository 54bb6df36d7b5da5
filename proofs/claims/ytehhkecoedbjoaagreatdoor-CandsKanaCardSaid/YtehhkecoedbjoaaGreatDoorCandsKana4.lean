import Derived.Test.YtehhkecoedbjoaaGreatDoorF0
import Derived.Test.YtehhkecoedbjoaaGreatDoorFM
import Derived.Test.YtehhkecoedbjoaaGreatDoorCandsKana1
import Derived.Test.YtehhkecoedbjoaaGreatDoorCandsKana2
import Derived.Test.YtehhkecoedbjoaaGreatDoorCandsKana3
set_option linter.unusedVariables false
set_option linter.unusedSimpArgs false
set_option linter.unusedSectionVars false
namespace Go.Proofs.YtehhkecoedbjoaaGreatDoor
theorem recurses3 : Tryz.prog.recurses 3 = true := by unfold Program.recurses; rw [unfollowed3]; rfl
theorem facts3 : joinedFacts Tryz.prog 3 Tryz.f3 Rows.candsKanaSpec Rows.candsKanaRow = true := by
  unfold joinedFacts
  rw [laidOut, mapsRowed, inPlace3, unfollowed3, recurses3, varsNamed3, mayEnter]
  kernel_rfl
end Go.Proofs.YtehhkecoedbjoaaGreatDoor
