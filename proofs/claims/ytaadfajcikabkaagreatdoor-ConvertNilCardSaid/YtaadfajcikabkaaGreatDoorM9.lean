/-
  Runs by themselves, by the kernel.
-/
import Derived.Test.YtaadfajcikabkaaGreatDoorMD
import Derived.Test.YtaadfajcikabkaaGreatDoorM8
set_option linter.unusedVariables false
set_option linter.unusedSimpArgs false
set_option linter.unusedSectionVars false
namespace Go.Ev
open Go Go.Proofs
theorem r27 : memoRun tau (callM []) 68 m27 [282, 181, 259] = true := by kernel_rfl
theorem k27 : MemoOk Tryz.prog tau 68 m27 := m_ok ms_nil r27
theorem r28 : memoRun tau (callM [(68, [m27])]) 45 m28 [216] = true := by kernel_rfl
theorem k28 : MemoOk Tryz.prog tau 45 m28 := m_ok (ms_cons (l_cons k27 l_nil) ms_nil) r28
theorem r29 : memoRun tau (callM [(31, [m24]), (32, [m26]), (45, [m28])]) 18 m29 [65, 50, 64, 58, 59, 71, 51, 52, 53, 61, 83, 54, 55, 56, 57] = true := by kernel_rfl
theorem k29 : MemoOk Tryz.prog tau 18 m29 := m_ok (ms_cons (l_cons k24 l_nil) (ms_cons (l_cons k26 l_nil) (ms_cons (l_cons k28 l_nil) ms_nil))) r29
theorem r30 : memoRun tau (callM [(22, [m25]), (18, [m29])]) 5 m30 [61, 13, 62, 63, 64, 65, 66, 15, 16, 17, 18, 19, 20, 21, 22, 23, 24, 25, 67, 68, 69, 70, 71, 29, 30, 31, 32, 33, 34, 35, 36, 37, 38, 39, 40, 41, 42, 43, 44, 45, 46, 72, 73, 74, 75, 51, 52, 53, 54, 55, 56, 57, 58, 59, 60] = true := by kernel_rfl
theorem k30 : MemoOk Tryz.prog tau 5 m30 := m_ok (ms_cons (l_cons k25 l_nil) (ms_cons (l_cons k29 l_nil) ms_nil)) r30
end Go.Ev
