/- The law FuncsArgs: what its text answers, input by input (part 4). -/
import Derived.Test.YtenilfkkpoajbaaDoorU0
set_option linter.unusedVariables false
set_option linter.unusedSimpArgs false
set_option maxRecDepth 4000
set_option maxHeartbeats 0
namespace Go.Proofs.YtenilfkkpoajbaaDoor.Abs
open Go
theorem args_9 : argsAt Tryd.prog XF 9 = true := by kernel_rfl
theorem args_10 : argsAt Tryd.prog XF 10 = true := by kernel_rfl
theorem args_11 : argsAt Tryd.prog XF 11 = true := by kernel_rfl
end Go.Proofs.YtenilfkkpoajbaaDoor.Abs
