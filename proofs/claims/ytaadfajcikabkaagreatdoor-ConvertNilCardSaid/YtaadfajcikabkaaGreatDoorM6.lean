/-
  Runs by themselves, by the kernel.
-/
import Derived.Test.YtaadfajcikabkaaGreatDoorMD
import Derived.Test.YtaadfajcikabkaaGreatDoorM0
import Derived.Test.YtaadfajcikabkaaGreatDoorM3
import Derived.Test.YtaadfajcikabkaaGreatDoorM5
set_option linter.unusedVariables false
set_option linter.unusedSimpArgs false
set_option linter.unusedSectionVars false
namespace Go.Ev
open Go Go.Proofs
theorem r13 : memoRun tau (callM [(96, [m0, m9])]) 59 m13 [60] = true := by kernel_rfl
theorem k13 : MemoOk Tryz.prog tau 59 m13 := m_ok (ms_cons (l_cons k0 (l_cons k9 l_nil)) ms_nil) r13
theorem r14 : memoRun tau (callM [(59, [m13])]) 164 m14 [52] = true := by kernel_rfl
theorem k14 : MemoOk Tryz.prog tau 164 m14 := m_ok (ms_cons (l_cons k13 l_nil) ms_nil) r14
theorem r15 : memoRun tau (callM [(163, [m12]), (164, [m14])]) 78 m15 [53] = true := by kernel_rfl
theorem k15 : MemoOk Tryz.prog tau 78 m15 := m_ok (ms_cons (l_cons k12 l_nil) (ms_cons (l_cons k14 l_nil) ms_nil)) r15
theorem r16 : memoRun tau (callM []) 163 m16 [] = true := by kernel_rfl
theorem k16 : MemoOk Tryz.prog tau 163 m16 := m_ok ms_nil r16
theorem r17 : memoRun tau (callM [(163, [m16])]) 78 m17 [] = true := by kernel_rfl
theorem k17 : MemoOk Tryz.prog tau 78 m17 := m_ok (ms_cons (l_cons k16 l_nil) ms_nil) r17
theorem r18 : memoRun tau (callM []) 163 m18 [] = true := by kernel_rfl
theorem k18 : MemoOk Tryz.prog tau 163 m18 := m_ok ms_nil r18
theorem r19 : memoRun tau (callM [(163, [m18])]) 78 m19 [] = true := by kernel_rfl
theorem k19 : MemoOk Tryz.prog tau 78 m19 := m_ok (ms_cons (l_cons k18 l_nil) ms_nil) r19
end Go.Ev
