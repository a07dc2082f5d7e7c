/- The law FuncsArgs: what its text answers, input by input (part 6). -/
import Derived.Test.YtenilfkkpoajbaaDoorU0
set_option linter.unusedVariables false
set_option linter.unusedSimpArgs false
set_option maxRecDepth 4000
set_option maxHeartbeats 0
namespace Go.Proofs.YtenilfkkpoajbaaDoor.Abs
open Go
theorem args_15 : argsAt Tryd.prog XF 15 = true := by kernel_rfl
theorem args_16 : argsAt Tryd.prog XF 16 = true := by kernel_rfl
theorem args_17 : argsAt Tryd.prog XF 17 = true := by kernel_rfl
end Go.Proofs.YtenilfkkpoajbaaDoor.Abs
