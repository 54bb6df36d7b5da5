/-
  Runs by themselves, by the kernel.
-/
import Derived.Test.YtaadfajcikabkaaGreatDoorMD
import Derived.Test.YtaadfajcikabkaaGreatDoorM0
import Derived.Test.YtaadfajcikabkaaGreatDoorM2
import Derived.Test.YtaadfajcikabkaaGreatDoorM3
set_option linter.unusedVariables false
set_option linter.unusedSimpArgs false
set_option linter.unusedSectionVars false
namespace Go.Ev
open Go Go.Proofs
theorem r11 : memoRun tau (callM [(96, [m0]), (105, [m2]), (52, [m6]), (122, [m7, m8]), (59, [m10])]) 38 m11 [24, 61, 97, 103, 135, 123, 157, 174, 192, 211, 233, 254, 96, 104, 105, 106, 107, 108, 136, 137, 138, 139, 140, 124, 158, 175, 193, 212, 234, 255, 109, 110, 111, 112, 113, 141, 142, 143, 144, 145] = true := by kernel_rfl
theorem k11 : MemoOk Tryz.prog tau 38 m11 := m_ok (ms_cons (l_cons k0 l_nil) (ms_cons (l_cons k2 l_nil) (ms_cons (l_cons k6 l_nil) (ms_cons (l_cons k7 (l_cons k8 l_nil)) (ms_cons (l_cons k10 l_nil) ms_nil))))) r11
end Go.Ev
