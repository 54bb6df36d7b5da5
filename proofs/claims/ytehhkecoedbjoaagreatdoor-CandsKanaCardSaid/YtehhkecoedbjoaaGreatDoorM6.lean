/-
  Runs by themselves, by the kernel.
-/
import Derived.Test.YtehhkecoedbjoaaGreatDoorMD
import Derived.Test.YtehhkecoedbjoaaGreatDoorM2
import Derived.Test.YtehhkecoedbjoaaGreatDoorM3
import Derived.Test.YtehhkecoedbjoaaGreatDoorM4
import Derived.Test.YtehhkecoedbjoaaGreatDoorM5
set_option linter.unusedVariables false
set_option linter.unusedSimpArgs false
set_option linter.unusedSectionVars false
namespace Go.Ev
open Go Go.Proofs
theorem r10 : memoRun tau (callM [(64, [m5]), (135, [m6, m7]), (71, [m8]), (62, [m9])]) 43 m10 [24, 51, 81, 87, 119, 107, 141, 158, 176, 195, 219, 240, 80, 88, 89, 90, 91, 92, 120, 121, 122, 123, 124, 108, 142, 159, 177, 196, 220, 241, 93, 94, 95, 96, 97, 125, 126, 127, 128, 129] = true := by kernel_rfl
theorem k10 : MemoOk Tryz.prog tau 43 m10 := m_ok (ms_cons (l_cons k5 l_nil) (ms_cons (l_cons k6 (l_cons k7 l_nil)) (ms_cons (l_cons k8 l_nil) (ms_cons (l_cons k9 l_nil) ms_nil)))) r10
end Go.Ev
