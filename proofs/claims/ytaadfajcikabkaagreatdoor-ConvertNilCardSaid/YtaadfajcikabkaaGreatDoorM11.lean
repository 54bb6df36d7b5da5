/-
  Runs by themselves, by the kernel.
-/
import Derived.Test.YtaadfajcikabkaaGreatDoorMD
import Derived.Test.YtaadfajcikabkaaGreatDoorM9
import Derived.Test.YtaadfajcikabkaaGreatDoorM10
set_option linter.unusedVariables false
set_option linter.unusedSimpArgs false
set_option linter.unusedSectionVars false
namespace Go.Ev
open Go Go.Proofs
theorem r34 : memoRun tau (callM []) 45 m34 [233] = true := by kernel_rfl
theorem k34 : MemoOk Tryz.prog tau 45 m34 := m_ok ms_nil r34
theorem r35 : memoRun tau (callM []) 29 m35 [194, 218, 249, 244] = true := by kernel_rfl
theorem k35 : MemoOk Tryz.prog tau 29 m35 := m_ok ms_nil r35
theorem r36 : memoRun tau (callM [(5, [m30]), (29, [m31]), (45, [m33, m34])]) 17 m36 [] = true := by kernel_rfl
theorem k36 : MemoOk Tryz.prog tau 17 m36 := m_ok (ms_cons (l_cons k30 l_nil) (ms_cons (l_cons k31 l_nil) (ms_cons (l_cons k33 (l_cons k34 l_nil)) ms_nil))) r36
theorem r37 : memoRun tau (callM [(45, [m28, m33, m34]), (5, [m30]), (29, [m31, m35]), (17, [m36])]) 3 m37 [] = true := by kernel_rfl
theorem k37 : MemoOk Tryz.prog tau 3 m37 := m_ok (ms_cons (l_cons k28 (l_cons k33 (l_cons k34 l_nil))) (ms_cons (l_cons k30 l_nil) (ms_cons (l_cons k31 (l_cons k35 l_nil)) (ms_cons (l_cons k36 l_nil) ms_nil)))) r37
end Go.Ev
