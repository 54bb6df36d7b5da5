/-
  Runs by themselves, by the kernel.
-/
import Derived.Test.YtaadfajcikabkaaGreatDoorMD
import Derived.Test.YtaadfajcikabkaaGreatDoorM0
set_option linter.unusedVariables false
set_option linter.unusedSimpArgs false
set_option linter.unusedSectionVars false
namespace Go.Ev
open Go Go.Proofs
theorem r8 : memoRun tau (callM []) 122 m8 [124, 288, 292, 269, 295, 123, 287, 290, 291, 294, 296] = true := by kernel_rfl
theorem k8 : MemoOk Tryz.prog tau 122 m8 := m_ok ms_nil r8
theorem r9 : memoRun tau (callM []) 96 m9 [] = true := by kernel_rfl
theorem k9 : MemoOk Tryz.prog tau 96 m9 := m_ok ms_nil r9
theorem r10 : memoRun tau (callM [(96, [m0, m9])]) 59 m10 [85] = true := by kernel_rfl
theorem k10 : MemoOk Tryz.prog tau 59 m10 := m_ok (ms_cons (l_cons k0 (l_cons k9 l_nil)) ms_nil) r10
end Go.Ev
