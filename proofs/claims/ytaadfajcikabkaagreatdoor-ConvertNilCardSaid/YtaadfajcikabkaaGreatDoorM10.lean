/-
  Runs by themselves, by the kernel.
-/
import Derived.Test.YtaadfajcikabkaaGreatDoorMD
set_option linter.unusedVariables false
set_option linter.unusedSimpArgs false
set_option linter.unusedSectionVars false
namespace Go.Ev
open Go Go.Proofs
theorem r31 : memoRun tau (callM []) 29 m31 [218, 222, 261, 241, 256] = true := by kernel_rfl
theorem k31 : MemoOk Tryz.prog tau 29 m31 := m_ok ms_nil r31
theorem r32 : memoRun tau (callM []) 68 m32 [187, 125, 175] = true := by kernel_rfl
theorem k32 : MemoOk Tryz.prog tau 68 m32 := m_ok ms_nil r32
theorem r33 : memoRun tau (callM [(68, [m32])]) 45 m33 [194] = true := by kernel_rfl
theorem k33 : MemoOk Tryz.prog tau 45 m33 := m_ok (ms_cons (l_cons k32 l_nil) ms_nil) r33
end Go.Ev
