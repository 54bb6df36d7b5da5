/-
  Runs by themselves, by the kernel.
-/
import Derived.Test.YtehhkecoedbjoaaGreatDoorMD
set_option linter.unusedVariables false
set_option linter.unusedSimpArgs false
set_option linter.unusedSectionVars false
namespace Go.Ev
open Go Go.Proofs
theorem r11 : memoRun tau (callM []) 227 m11 [96] = true := by kernel_rfl
theorem k11 : MemoOk Tryz.prog tau 227 m11 := m_ok ms_nil r11
end Go.Ev
