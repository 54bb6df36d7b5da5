/-
  Runs by themselves, by the kernel.
-/
import Derived.Test.YtehhkecoedbjoaaGreatDoorMD
import Derived.Test.YtehhkecoedbjoaaGreatDoorM0
import Derived.Test.YtehhkecoedbjoaaGreatDoorM1
set_option linter.unusedVariables false
set_option linter.unusedSimpArgs false
set_option linter.unusedSectionVars false
namespace Go.Ev
open Go Go.Proofs
theorem r3 : memoRun tau (callM [(62, [m2])]) 42 m3 [16] = true := by kernel_rfl
theorem k3 : MemoOk Tryz.prog tau 42 m3 := m_ok (ms_cons (l_cons k2 l_nil) ms_nil) r3
theorem r4 : memoRun tau (callM []) 209 m4 [] = true := by kernel_rfl
theorem k4 : MemoOk Tryz.prog tau 209 m4 := m_ok ms_nil r4
theorem r5 : memoRun tau (callM [(118, [m1]), (209, [m4])]) 64 m5 [19, 110, 112, 114, 116, 118, 120, 122, 124, 126, 128, 130] = true := by kernel_rfl
theorem k5 : MemoOk Tryz.prog tau 64 m5 := m_ok (ms_cons (l_cons k1 l_nil) (ms_cons (l_cons k4 l_nil) ms_nil)) r5
end Go.Ev
