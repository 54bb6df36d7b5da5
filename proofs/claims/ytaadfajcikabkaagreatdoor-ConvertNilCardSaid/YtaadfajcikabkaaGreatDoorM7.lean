/-
  Runs by themselves, by the kernel.
-/
import Derived.Test.YtaadfajcikabkaaGreatDoorMD
set_option linter.unusedVariables false
set_option linter.unusedSimpArgs false
set_option linter.unusedSectionVars false
namespace Go.Ev
open Go Go.Proofs
theorem r20 : memoRun tau (callM []) 163 m20 [58] = true := by kernel_rfl
theorem k20 : MemoOk Tryz.prog tau 163 m20 := m_ok ms_nil r20
theorem r21 : memoRun tau (callM []) 59 m21 [80] = true := by kernel_rfl
theorem k21 : MemoOk Tryz.prog tau 59 m21 := m_ok ms_nil r21
theorem r22 : memoRun tau (callM [(59, [m21])]) 164 m22 [52] = true := by kernel_rfl
theorem k22 : MemoOk Tryz.prog tau 164 m22 := m_ok (ms_cons (l_cons k21 l_nil) ms_nil) r22
theorem r23 : memoRun tau (callM [(163, [m20]), (164, [m22])]) 78 m23 [53] = true := by kernel_rfl
theorem k23 : MemoOk Tryz.prog tau 78 m23 := m_ok (ms_cons (l_cons k20 l_nil) (ms_cons (l_cons k22 l_nil) ms_nil)) r23
end Go.Ev
