/-
  Runs by themselves, by the kernel.
-/
import Derived.Test.YtebnellffbcgdaaGreatDoorMD
set_option linter.unusedVariables false
set_option linter.unusedSimpArgs false
set_option linter.unusedSectionVars false
namespace Go.Ev
open Go Go.Proofs
theorem r12 : memoRun tau (callM []) 63 m12 [105] = true := by kernel_rfl
theorem k12 : MemoOk Tryz.prog tau 63 m12 := m_ok ms_nil r12
theorem r13 : memoRun tau (callM [(63, [m12])]) 221 m13 [52] = true := by kernel_rfl
theorem k13 : MemoOk Tryz.prog tau 221 m13 := m_ok (ms_cons (l_cons k12 l_nil) ms_nil) r13
end Go.Ev
