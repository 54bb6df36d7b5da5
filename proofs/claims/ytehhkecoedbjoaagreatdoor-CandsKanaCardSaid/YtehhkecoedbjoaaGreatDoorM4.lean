/-
  Runs by themselves, by the kernel.
-/
import Derived.Test.YtehhkecoedbjoaaGreatDoorMD
set_option linter.unusedVariables false
set_option linter.unusedSimpArgs false
set_option linter.unusedSectionVars false
namespace Go.Ev
open Go Go.Proofs
theorem r8 : memoRun tau (callM []) 71 m8 [139] = true := by kernel_rfl
theorem k8 : MemoOk Tryz.prog tau 71 m8 := m_ok ms_nil r8
end Go.Ev
