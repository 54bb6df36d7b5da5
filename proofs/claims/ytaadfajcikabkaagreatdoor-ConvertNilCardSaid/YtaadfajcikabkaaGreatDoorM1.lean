/-
  Runs by themselves, by the kernel.
-/
import Derived.Test.YtaadfajcikabkaaGreatDoorMD
import Derived.Test.YtaadfajcikabkaaGreatDoorM0
set_option linter.unusedVariables false
set_option linter.unusedSimpArgs false
set_option linter.unusedSectionVars false
namespace Go.Ev
open Go Go.Proofs
theorem r3 : memoRun tau (callM [(96, [m0]), (105, [m2])]) 50 m3 [764] = true := by kernel_rfl
theorem k3 : MemoOk Tryz.prog tau 50 m3 := m_ok (ms_cons (l_cons k0 l_nil) (ms_cons (l_cons k2 l_nil) ms_nil)) r3
theorem r4 : memoRun tau (callM [(50, [m3])]) 37 m4 [16] = true := by kernel_rfl
theorem k4 : MemoOk Tryz.prog tau 37 m4 := m_ok (ms_cons (l_cons k3 l_nil) ms_nil) r4
end Go.Ev
