/-
  Runs by themselves, by the kernel.
-/
import Derived.Test.YtehhkecoedbjoaaGreatDoorMD
import Derived.Test.YtehhkecoedbjoaaGreatDoorM7
import Derived.Test.YtehhkecoedbjoaaGreatDoorM8
set_option linter.unusedVariables false
set_option linter.unusedSimpArgs false
set_option linter.unusedSectionVars false
namespace Go.Ev
open Go Go.Proofs
theorem r14 : memoRun tau (callM []) 71 m14 [89] = true := by kernel_rfl
theorem k14 : MemoOk Tryz.prog tau 71 m14 := m_ok ms_nil r14
theorem r15 : memoRun tau (callM [(71, [m14])]) 228 m15 [52] = true := by kernel_rfl
theorem k15 : MemoOk Tryz.prog tau 228 m15 := m_ok (ms_cons (l_cons k14 l_nil) ms_nil) r15
theorem r16 : memoRun tau (callM [(227, [m11]), (228, [m13, m15])]) 146 m16 [56] = true := by kernel_rfl
theorem k16 : MemoOk Tryz.prog tau 146 m16 := m_ok (ms_cons (l_cons k11 l_nil) (ms_cons (l_cons k13 (l_cons k15 l_nil)) ms_nil)) r16
end Go.Ev
