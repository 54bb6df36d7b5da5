/-
  ConvertNil: the run, whatever the arguments are.
-/
import Derived.Test.YtaadfajcikabkaaGreatDoorEv18
import Derived.Test.YtaadfajcikabkaaGreatDoorM11
set_option linter.unusedVariables false
set_option linter.unusedSimpArgs false
set_option linter.unusedSectionVars false
namespace Go.Ev
open Go Go.Proofs
noncomputable def mConvertNil (x0 : ByteArray) (x1 : Int) : Memo := {
  gs := [(0, glob0), (1, glob1), (4, glob4)]
  args := [(.string x0), (.int .i64 x1)]
  ins := []
  res := (.bool true)
  outs := [] }
theorem rConvertNil (x0 : ByteArray) (x1 : Int) : memoRun tau (callM [(17, [m36])]) 4 (mConvertNil x0 x1) [] = true := by kernel_rfl
theorem kConvertNil (x0 : ByteArray) (x1 : Int) : MemoOk Tryz.prog tau 4 (mConvertNil x0 x1) := m_ok (ms_cons (l_cons k36 l_nil) ms_nil) (rConvertNil x0 x1)
end Go.Ev
