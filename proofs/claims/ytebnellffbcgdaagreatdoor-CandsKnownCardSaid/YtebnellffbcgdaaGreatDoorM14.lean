/-
  Runs by themselves, by the kernel.
-/
import Derived.Test.YtebnellffbcgdaaGreatDoorMD
import Derived.Test.YtebnellffbcgdaaGreatDoorM11
import Derived.Test.YtebnellffbcgdaaGreatDoorM12
import Derived.Test.YtebnellffbcgdaaGreatDoorM13
set_option linter.unusedVariables false
set_option linter.unusedSimpArgs false
set_option linter.unusedSectionVars false
namespace Go.Ev
open Go Go.Proofs
theorem r24 : memoRun tau (callM [(11, [m20]), (9, [m21]), (8, [m23])]) 5 m24 [] = true := by kernel_rfl
theorem k24 : MemoOk Tryz.prog tau 5 m24 := m_ok (ms_cons (l_cons k20 l_nil) (ms_cons (l_cons k21 l_nil) (ms_cons (l_cons k23 l_nil) ms_nil))) r24
end Go.Ev
