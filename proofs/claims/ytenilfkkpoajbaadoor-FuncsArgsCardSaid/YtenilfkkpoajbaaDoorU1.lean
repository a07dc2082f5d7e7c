/- The law FuncsArgs: what its text answers, input by input (part 1). -/
import Derived.Test.YtenilfkkpoajbaaDoorU0
set_option linter.unusedVariables false
set_option linter.unusedSimpArgs false
set_option maxRecDepth 4000
set_option maxHeartbeats 0
namespace Go.Proofs.YtenilfkkpoajbaaDoor.Abs
open Go
theorem args_0 : argsAt Tryd.prog XF 0 = true := by kernel_rfl
theorem args_1 : argsAt Tryd.prog XF 1 = true := by kernel_rfl
theorem args_2 : argsAt Tryd.prog XF 2 = true := by kernel_rfl
end Go.Proofs.YtenilfkkpoajbaaDoor.Abs
