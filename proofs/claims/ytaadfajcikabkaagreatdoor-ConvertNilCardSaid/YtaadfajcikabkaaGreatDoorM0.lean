/-
  Runs by themselves, by the kernel.
-/
import Derived.Test.YtaadfajcikabkaaGreatDoorMD
set_option linter.unusedVariables false
set_option linter.unusedSimpArgs false
set_option linter.unusedSectionVars false
namespace Go.Ev
open Go Go.Proofs
theorem r0 : memoRun tau (callM []) 96 m0 [] = true := by kernel_rfl
theorem k0 : MemoOk Tryz.prog tau 96 m0 := m_ok ms_nil r0
theorem r1 : memoRun tau (callM []) 195 m1 [] = true := by kernel_rfl
theorem k1 : MemoOk Tryz.prog tau 195 m1 := m_ok ms_nil r1
theorem r2 : memoRun tau (callM [(195, [m1])]) 105 m2 [194] = true := by kernel_rfl
theorem k2 : MemoOk Tryz.prog tau 105 m2 := m_ok (ms_cons (l_cons k1 l_nil) ms_nil) r2
end Go.Ev
