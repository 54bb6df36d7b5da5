/-
  Runs by themselves, by the kernel.
-/
import Derived.Test.YtehhkecoedbjoaaGreatDoorMD
set_option linter.unusedVariables false
set_option linter.unusedSimpArgs false
set_option linter.unusedSectionVars false
namespace Go.Ev
open Go Go.Proofs
theorem r0 : memoRun tau (callM []) 209 m0 [] = true := by kernel_rfl
theorem k0 : MemoOk Tryz.prog tau 209 m0 := m_ok ms_nil r0
theorem r1 : memoRun tau (callM [(209, [m0])]) 118 m1 [194] = true := by kernel_rfl
theorem k1 : MemoOk Tryz.prog tau 118 m1 := m_ok (ms_cons (l_cons k0 l_nil) ms_nil) r1
end Go.Ev
