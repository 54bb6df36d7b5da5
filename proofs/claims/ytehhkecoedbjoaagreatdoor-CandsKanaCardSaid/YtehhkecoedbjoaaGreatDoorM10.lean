/-
  Runs by themselves, by the kernel.
-/
import Derived.Test.YtehhkecoedbjoaaGreatDoorMD
set_option linter.unusedVariables false
set_option linter.unusedSimpArgs false
set_option linter.unusedSectionVars false
namespace Go.Ev
open Go Go.Proofs
theorem r17 : memoRun tau (callM []) 227 m17 [] = true := by kernel_rfl
theorem k17 : MemoOk Tryz.prog tau 227 m17 := m_ok ms_nil r17
theorem r18 : memoRun tau (callM [(227, [m17])]) 146 m18 [] = true := by kernel_rfl
theorem k18 : MemoOk Tryz.prog tau 146 m18 := m_ok (ms_cons (l_cons k17 l_nil) ms_nil) r18
end Go.Ev
