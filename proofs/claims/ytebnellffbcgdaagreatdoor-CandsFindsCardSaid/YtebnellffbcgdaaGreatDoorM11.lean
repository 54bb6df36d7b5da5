/-
  Runs by themselves, by the kernel.
-/
import Derived.Test.YtebnellffbcgdaaGreatDoorMD
import Derived.Test.YtebnellffbcgdaaGreatDoorM2
import Derived.Test.YtebnellffbcgdaaGreatDoorM6
import Derived.Test.YtebnellffbcgdaaGreatDoorM9
import Derived.Test.YtebnellffbcgdaaGreatDoorM10
set_option linter.unusedVariables false
set_option linter.unusedSimpArgs false
set_option linter.unusedSectionVars false
namespace Go.Ev
open Go Go.Proofs
theorem r19 : memoRun tau (callM [(149, [m16, m18])]) 26 m19 [113, 107, 111, 112, 125, 128] = true := by kernel_rfl
theorem k19 : MemoOk Tryz.prog tau 26 m19 := m_ok (ms_cons (l_cons k16 (l_cons k18 l_nil)) ms_nil) r19
theorem r20 : memoRun tau (callM [(24, [m3]), (25, [m10]), (26, [m19])]) 11 m20 [14, 54, 15, 16, 17, 18, 19, 20, 21, 22, 23, 24, 25, 55, 56, 57, 26, 27, 28, 29, 30, 31, 32, 33, 34, 35, 36, 37, 38, 39, 40, 41, 42, 43, 58, 59, 44, 45, 46, 47, 48, 49, 50, 51, 52, 53] = true := by kernel_rfl
theorem k20 : MemoOk Tryz.prog tau 11 m20 := m_ok (ms_cons (l_cons k3 l_nil) (ms_cons (l_cons k10 l_nil) (ms_cons (l_cons k19 l_nil) ms_nil))) r20
end Go.Ev
