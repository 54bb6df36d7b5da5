/-
  Runs by themselves, by the kernel.
-/
import Derived.Test.YtehhkecoedbjoaaGreatDoorMD
set_option linter.unusedVariables false
set_option linter.unusedSimpArgs false
set_option linter.unusedSectionVars false
namespace Go.Ev
open Go Go.Proofs
theorem r6 : memoRun tau (callM []) 135 m6 [118, 234, 238, 215, 241, 117, 233, 236, 237, 240, 242] = true := by kernel_rfl
theorem k6 : MemoOk Tryz.prog tau 135 m6 := m_ok ms_nil r6
theorem r7 : memoRun tau (callM []) 135 m7 [125, 291, 295, 250, 298, 124, 290, 293, 294, 297, 299] = true := by kernel_rfl
theorem k7 : MemoOk Tryz.prog tau 135 m7 := m_ok ms_nil r7
end Go.Ev
