import Derived.Test.YtebnellffbcgdaaGreatDoorF0
import Derived.Test.YtebnellffbcgdaaGreatDoorG1
import Derived.Test.YtebnellffbcgdaaGreatDoorG2
import Derived.Test.YtebnellffbcgdaaGreatDoorG3
import Derived.Test.YtebnellffbcgdaaGreatDoorFM
set_option linter.unusedVariables false
set_option linter.unusedSimpArgs false
set_option linter.unusedSectionVars false
namespace Go.Proofs.YtebnellffbcgdaaGreatDoor
theorem recurses4 : Tryz.prog.recurses 4 = true := by unfold Program.recurses; rw [unfollowed4]; rfl
theorem facts4 : joinedFacts Tryz.prog 4 Tryz.f4 Rows.candsNoneSpec Rows.candsNoneRow = true := by
  unfold joinedFacts
  rw [laidOut, mapsRowed, inPlace4, unfollowed4, recurses4, varsNamed4, mayEnter]
  kernel_rfl
end Go.Proofs.YtebnellffbcgdaaGreatDoor
