/- The law DirAborts at the evaluator, for the host 9; no condition. -/
import Derived.Test.YtcjmogljihkfnaaDirAborts
set_option linter.unusedVariables false
set_option linter.unusedSimpArgs false
namespace Go.Ev.Dir
theorem in9 : inRange 9 = true := by kernel_rfl
end Go.Ev.Dir
