/-
  Runs by themselves, by the kernel.
-/
import Derived.Test.YtebnellffbcgdaaGreatDoorMD
set_option linter.unusedVariables false
set_option linter.unusedSimpArgs false
set_option linter.unusedSectionVars false
namespace Go.Ev
open Go Go.Proofs
theorem r21 : memoRun tau (callM []) 9 m21 [184] = true := by kernel_rfl
theorem k21 : MemoOk Tryz.prog tau 9 m21 := m_ok ms_nil r21
end Go.Ev
