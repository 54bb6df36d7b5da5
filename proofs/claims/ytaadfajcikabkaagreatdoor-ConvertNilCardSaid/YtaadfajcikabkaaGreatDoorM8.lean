/-
  Runs by themselves, by the kernel.
-/
import Derived.Test.YtaadfajcikabkaaGreatDoorMD
import Derived.Test.YtaadfajcikabkaaGreatDoorM1
import Derived.Test.YtaadfajcikabkaaGreatDoorM4
import Derived.Test.YtaadfajcikabkaaGreatDoorM6
import Derived.Test.YtaadfajcikabkaaGreatDoorM7
set_option linter.unusedVariables false
set_option linter.unusedSimpArgs false
set_option linter.unusedSectionVars false
namespace Go.Ev
open Go Go.Proofs
theorem r24 : memoRun tau (callM [(78, [m15, m17, m19, m23])]) 31 m24 [128, 120, 126, 127, 134, 137, 140, 146] = true := by kernel_rfl
theorem k24 : MemoOk Tryz.prog tau 31 m24 := m_ok (ms_cons (l_cons k15 (l_cons k17 (l_cons k19 (l_cons k23 l_nil)))) ms_nil) r24
theorem r25 : memoRun tau (callM [(37, [m4]), (38, [m11]), (31, [m24])]) 22 m25 [14, 54, 15, 16, 17, 18, 19, 20, 21, 22, 23, 24, 25, 55, 56, 57, 26, 27, 28, 29, 30, 31, 32, 33, 34, 35, 36, 37, 38, 39, 40, 41, 42, 43, 58, 59, 60, 61, 44, 45, 46, 47, 48, 49, 50, 51, 52, 53] = true := by kernel_rfl
theorem k25 : MemoOk Tryz.prog tau 22 m25 := m_ok (ms_cons (l_cons k4 l_nil) (ms_cons (l_cons k11 l_nil) (ms_cons (l_cons k24 l_nil) ms_nil))) r25
theorem r26 : memoRun tau (callM []) 32 m26 [206, 208, 239, 234] = true := by kernel_rfl
theorem k26 : MemoOk Tryz.prog tau 32 m26 := m_ok ms_nil r26
end Go.Ev
