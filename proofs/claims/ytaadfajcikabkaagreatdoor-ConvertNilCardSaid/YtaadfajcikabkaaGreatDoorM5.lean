/-
  Runs by themselves, by the kernel.
-/
import Derived.Test.YtaadfajcikabkaaGreatDoorMD
set_option linter.unusedVariables false
set_option linter.unusedSimpArgs false
set_option linter.unusedSectionVars false
namespace Go.Ev
open Go Go.Proofs
theorem r12 : memoRun tau (callM []) 163 m12 [130] = true := by kernel_rfl
theorem k12 : MemoOk Tryz.prog tau 163 m12 := m_ok ms_nil r12
end Go.Ev
