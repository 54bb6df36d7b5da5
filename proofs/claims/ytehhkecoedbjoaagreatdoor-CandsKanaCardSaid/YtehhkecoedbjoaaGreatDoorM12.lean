/-
  Runs by themselves, by the kernel.
-/
import Derived.Test.YtehhkecoedbjoaaGreatDoorMD
import Derived.Test.YtehhkecoedbjoaaGreatDoorM11
set_option linter.unusedVariables false
set_option linter.unusedSimpArgs false
set_option linter.unusedSectionVars false
namespace Go.Ev
open Go Go.Proofs
theorem r22 : memoRun tau (callM [(25, [m21])]) 21 m22 [357] = true := by kernel_rfl
theorem k22 : MemoOk Tryz.prog tau 21 m22 := m_ok (ms_cons (l_cons k21 l_nil) ms_nil) r22
theorem r23 : memoRun tau (callM [(20, [m20]), (21, [m22])]) 7 m23 [] = true := by kernel_rfl
theorem k23 : MemoOk Tryz.prog tau 7 m23 := m_ok (ms_cons (l_cons k20 l_nil) (ms_cons (l_cons k22 l_nil) ms_nil)) r23
end Go.Ev
