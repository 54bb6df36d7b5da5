/-
  Runs by themselves, by the kernel.
-/
import Derived.Test.YtehhkecoedbjoaaGreatDoorMD
set_option linter.unusedVariables false
set_option linter.unusedSimpArgs false
set_option linter.unusedSectionVars false
namespace Go.Ev
open Go Go.Proofs
theorem r12 : memoRun tau (callM []) 71 m12 [105] = true := by kernel_rfl
theorem k12 : MemoOk Tryz.prog tau 71 m12 := m_ok ms_nil r12
theorem r13 : memoRun tau (callM [(71, [m12])]) 228 m13 [52] = true := by kernel_rfl
theorem k13 : MemoOk Tryz.prog tau 228 m13 := m_ok (ms_cons (l_cons k12 l_nil) ms_nil) r13
end Go.Ev
