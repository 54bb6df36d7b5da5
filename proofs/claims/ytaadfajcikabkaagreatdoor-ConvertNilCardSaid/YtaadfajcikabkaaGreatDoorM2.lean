/-
  Runs by themselves, by the kernel.
-/
import Derived.Test.YtaadfajcikabkaaGreatDoorMD
import Derived.Test.YtaadfajcikabkaaGreatDoorM0
set_option linter.unusedVariables false
set_option linter.unusedSimpArgs false
set_option linter.unusedSectionVars false
namespace Go.Ev
open Go Go.Proofs
theorem r5 : memoRun tau (callM []) 195 m5 [] = true := by kernel_rfl
theorem k5 : MemoOk Tryz.prog tau 195 m5 := m_ok ms_nil r5
theorem r6 : memoRun tau (callM [(105, [m2]), (195, [m5])]) 52 m6 [19, 110, 112, 114, 116, 118, 120, 122, 124, 126, 128, 130] = true := by kernel_rfl
theorem k6 : MemoOk Tryz.prog tau 52 m6 := m_ok (ms_cons (l_cons k2 l_nil) (ms_cons (l_cons k5 l_nil) ms_nil)) r6
theorem r7 : memoRun tau (callM []) 122 m7 [126, 306, 310, 287, 313, 125, 305, 308, 309, 312, 314] = true := by kernel_rfl
theorem k7 : MemoOk Tryz.prog tau 122 m7 := m_ok ms_nil r7
end Go.Ev
