/- The law InputKinds: what its text answers, input by input. -/
import Derived.Test.YtenilfkkpoajbaaGreatDoorY0
set_option linter.unusedVariables false
set_option linter.unusedSimpArgs false
set_option maxRecDepth 4000
set_option maxHeartbeats 0
namespace Go.Proofs.YtenilfkkpoajbaaGreatDoor.Abs
open Go
noncomputable def XK0 : Outer := fun f => if f = 184 then some ixG else if f = 58 then some itoaKG else if f = 57 then some (atoiG 138) else none
noncomputable def XK : Outer := fun f => if f = 11 then some trueG else XK0 f
theorem kinds_alive : ansIs (run Tryz.prog XK0 100 11 [] ⟨0, []⟩) (.bool true) = true := by kernel_rfl
def kindAt (P : Program) (X : Outer) (w : Nat) : Bool := ansIs (run P X 200 4 [.int .i64 (Int.ofNat w)] ⟨0, []⟩) (.bool true)
theorem kinds_0 : ((List.range 5).all fun i => kindAt Tryz.prog XK i) = true := by kernel_rfl
theorem kinds_1 : ((List.range 5).all fun i => kindAt Tryz.prog XK (i + 5)) = true := by kernel_rfl
theorem kinds_2 : ((List.range 5).all fun i => kindAt Tryz.prog XK (i + 10)) = true := by kernel_rfl
theorem kinds_3 : ((List.range 5).all fun i => kindAt Tryz.prog XK (i + 15)) = true := by kernel_rfl
end Go.Proofs.YtenilfkkpoajbaaGreatDoor.Abs
