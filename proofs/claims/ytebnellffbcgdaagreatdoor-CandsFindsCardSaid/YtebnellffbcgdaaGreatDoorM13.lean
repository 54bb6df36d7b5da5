/-
  Runs by themselves, by the kernel.
-/
import Derived.Test.YtebnellffbcgdaaGreatDoorMD
import Derived.Test.YtebnellffbcgdaaGreatDoorM11
set_option linter.unusedVariables false
set_option linter.unusedSimpArgs false
set_option linter.unusedSectionVars false
namespace Go.Ev
open Go Go.Proofs
theorem r22 : memoRun tau (callM []) 9 m22 [361] = true := by kernel_rfl
theorem k22 : MemoOk Tryz.prog tau 9 m22 := m_ok ms_nil r22
theorem r23 : memoRun tau (callM [(11, [m20]), (9, [m22])]) 8 m23 [] = true := by kernel_rfl
theorem k23 : MemoOk Tryz.prog tau 8 m23 := m_ok (ms_cons (l_cons k20 l_nil) (ms_cons (l_cons k22 l_nil) ms_nil)) r23
end Go.Ev
