import Derived.Test.YtebnellffbcgdaaGreatDoorF0
import Derived.Test.YtebnellffbcgdaaGreatDoorH1
import Derived.Test.YtebnellffbcgdaaGreatDoorH2
import Derived.Test.YtebnellffbcgdaaGreatDoorH3
import Derived.Test.YtebnellffbcgdaaGreatDoorFM
set_option linter.unusedVariables false
set_option linter.unusedSimpArgs false
set_option linter.unusedSectionVars false
namespace Go.Proofs.YtebnellffbcgdaaGreatDoor
theorem recurses3 : Tryz.prog.recurses 3 = true := by unfold Program.recurses; rw [unfollowed3]; rfl
theorem facts3 : joinedFacts Tryz.prog 3 Tryz.f3 Rows.candsFindsSpec Rows.candsFindsRow = true := by
  unfold joinedFacts
  rw [laidOut, mapsRowed, inPlace3, unfollowed3, recurses3, varsNamed3, mayEnter]
  kernel_rfl
end Go.Proofs.YtebnellffbcgdaaGreatDoor
