import Derived.Test.YtebnellffbcgdaaGreatDoorF0
import Derived.Test.YtebnellffbcgdaaGreatDoorF1
import Derived.Test.YtebnellffbcgdaaGreatDoorF2
import Derived.Test.YtebnellffbcgdaaGreatDoorF3
import Derived.Test.YtebnellffbcgdaaGreatDoorFM
set_option linter.unusedVariables false
set_option linter.unusedSimpArgs false
set_option linter.unusedSectionVars false
namespace Go.Proofs.YtebnellffbcgdaaGreatDoor
theorem recurses5 : Tryz.prog.recurses 5 = true := by unfold Program.recurses; rw [unfollowed5]; rfl
theorem facts5 : joinedFacts Tryz.prog 5 Tryz.f5 Rows.candsKnownSpec Rows.candsKnownRow = true := by
  unfold joinedFacts
  rw [laidOut, mapsRowed, inPlace5, unfollowed5, recurses5, varsNamed5, mayEnter]
  kernel_rfl
end Go.Proofs.YtebnellffbcgdaaGreatDoor
