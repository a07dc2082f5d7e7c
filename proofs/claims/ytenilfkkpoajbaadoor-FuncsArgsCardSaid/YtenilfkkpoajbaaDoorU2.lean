/- The law FuncsArgs: what its text answers, input by input (part 2). -/
import Derived.Test.YtenilfkkpoajbaaDoorU0
set_option linter.unusedVariables false
set_option linter.unusedSimpArgs false
set_option maxRecDepth 4000
set_option maxHeartbeats 0
namespace Go.Proofs.YtenilfkkpoajbaaDoor.Abs
open Go
theorem args_3 : argsAt Tryd.prog XF 3 = true := by kernel_rfl
theorem args_4 : argsAt Tryd.prog XF 4 = true := by kernel_rfl
theorem args_5 : argsAt Tryd.prog XF 5 = true := by kernel_rfl
end Go.Proofs.YtenilfkkpoajbaaDoor.Abs
