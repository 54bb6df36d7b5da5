/-
  Runs by themselves, by the kernel.
-/
import Derived.Test.YtehhkecoedbjoaaGreatDoorMD
import Derived.Test.YtehhkecoedbjoaaGreatDoorM2
import Derived.Test.YtehhkecoedbjoaaGreatDoorM6
import Derived.Test.YtehhkecoedbjoaaGreatDoorM9
import Derived.Test.YtehhkecoedbjoaaGreatDoorM10
set_option linter.unusedVariables false
set_option linter.unusedSimpArgs false
set_option linter.unusedSectionVars false
namespace Go.Ev
open Go Go.Proofs
theorem r19 : memoRun tau (callM [(146, [m16, m18])]) 44 m19 [113, 107, 111, 112, 125, 128] = true := by kernel_rfl
theorem k19 : MemoOk Tryz.prog tau 44 m19 := m_ok (ms_cons (l_cons k16 (l_cons k18 l_nil)) ms_nil) r19
theorem r20 : memoRun tau (callM [(42, [m3]), (43, [m10]), (44, [m19])]) 20 m20 [14, 54, 15, 16, 17, 18, 19, 20, 21, 22, 23, 24, 25, 55, 56, 57, 26, 27, 28, 29, 30, 31, 32, 33, 34, 35, 36, 37, 38, 39, 40, 41, 42, 43, 58, 59, 44, 45, 46, 47, 48, 49, 50, 51, 52, 53] = true := by kernel_rfl
theorem k20 : MemoOk Tryz.prog tau 20 m20 := m_ok (ms_cons (l_cons k3 l_nil) (ms_cons (l_cons k10 l_nil) (ms_cons (l_cons k19 l_nil) ms_nil))) r20
theorem r21 : memoRun tau (callM []) 25 m21 [10] = true := by kernel_rfl
theorem k21 : MemoOk Tryz.prog tau 25 m21 := m_ok ms_nil r21
end Go.Ev
