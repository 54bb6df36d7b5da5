/-
  henkanlaw26.CandsNone: the run, whatever the numbers are.
-/
import Derived.Test.YtebnellffbcgdaaGreatDoorEv18
import Derived.Test.YtebnellffbcgdaaGreatDoorM13
set_option linter.unusedVariables false
set_option linter.unusedSimpArgs false
set_option linter.unusedSectionVars false
namespace Go.Ev
open Go Go.Proofs
noncomputable def mNone (a b d m : Int) : Memo := {
  gs := [(0, glob0), (1, glob1), (6, glob6)]
  args := [(.agg ⟨[(.int .i64 a), (.int .i64 b)]⟩), (.int .i64 d), (.int .i64 m)]
  ins := []
  res := (.bool true)
  outs := [] }
theorem rNone (a b d m : Int) : memoRun tau (callM [(8, [m23])]) 4 (mNone a b d m) [] = true := by kernel_rfl
theorem kNone (a b d m : Int) : MemoOk Tryz.prog tau 4 (mNone a b d m) := m_ok (ms_cons (l_cons k23 l_nil) ms_nil) (rNone a b d m)
end Go.Ev
