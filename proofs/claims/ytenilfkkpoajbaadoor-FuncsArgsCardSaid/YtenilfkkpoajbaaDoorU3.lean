/- The law FuncsArgs: what its text answers, input by input (part 3). -/
import Derived.Test.YtenilfkkpoajbaaDoorU0
set_option linter.unusedVariables false
set_option linter.unusedSimpArgs false
set_option maxRecDepth 4000
set_option maxHeartbeats 0
namespace Go.Proofs.YtenilfkkpoajbaaDoor.Abs
open Go
theorem args_6 : argsAt Tryd.prog XF 6 = true := by kernel_rfl
theorem args_7 : argsAt Tryd.prog XF 7 = true := by kernel_rfl
theorem args_8 : argsAt Tryd.prog XF 8 = true := by kernel_rfl
end Go.Proofs.YtenilfkkpoajbaaDoor.Abs
