/- The law FuncsArgs: what its text answers, input by input (part 0). -/
import Derived.Test.YtenilfkkpoajbaaDoorT0
set_option linter.unusedVariables false
set_option linter.unusedSimpArgs false
set_option maxRecDepth 4000
set_option maxHeartbeats 0
namespace Go.Proofs.YtenilfkkpoajbaaDoor.Abs
open Go
noncomputable def XF : Outer := fun f => if f = 39 then some trueG else none
def argsAt (P : Program) (X : Outer) (w : Nat) : Bool := (List.range 7).all fun n => ansIs (run P X 200 8 [.int .i64 (Int.ofNat w), .int .i64 (Int.ofNat n)] ⟨0, []⟩) (.bool true)
theorem args_alive : ansIs (run Tryd.prog (fun _ => none) 200 39 [] ⟨0, []⟩) (.bool true) = true := by kernel_rfl
end Go.Proofs.YtenilfkkpoajbaaDoor.Abs
