/-
  Runs by themselves, by the kernel.
-/
import Derived.Test.YtehhkecoedbjoaaGreatDoorMD
import Derived.Test.YtehhkecoedbjoaaGreatDoorM0
set_option linter.unusedVariables false
set_option linter.unusedSimpArgs false
set_option linter.unusedSectionVars false
namespace Go.Ev
open Go Go.Proofs
theorem r9 : memoRun tau (callM [(118, [m1])]) 62 m9 [735] = true := by kernel_rfl
theorem k9 : MemoOk Tryz.prog tau 62 m9 := m_ok (ms_cons (l_cons k1 l_nil) ms_nil) r9
end Go.Ev
