/- The law FuncsArgs: what its text answers, input by input (part 5). -/
import Derived.Test.YtenilfkkpoajbaaDoorU0
set_option linter.unusedVariables false
set_option linter.unusedSimpArgs false
set_option maxRecDepth 4000
set_option maxHeartbeats 0
namespace Go.Proofs.YtenilfkkpoajbaaDoor.Abs
open Go
theorem args_12 : argsAt Tryd.prog XF 12 = true := by kernel_rfl
theorem args_13 : argsAt Tryd.prog XF 13 = true := by kernel_rfl
theorem args_14 : argsAt Tryd.prog XF 14 = true := by kernel_rfl
end Go.Proofs.YtenilfkkpoajbaaDoor.Abs
