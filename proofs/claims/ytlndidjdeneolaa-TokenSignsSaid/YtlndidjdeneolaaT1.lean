/- The law TokenSigns: what its text answers, input by input. -/
import Derived.Test.YtlndidjdeneolaaT0
import Derived.Test.YtlndidjdeneolaaTF
set_option linter.unusedVariables false
set_option linter.unusedSimpArgs false
set_option maxRecDepth 4000
set_option maxHeartbeats 0
namespace Go.Proofs.Ytlndidjdeneolaa.Abs
open Go
attribute [local irreducible] Hold DR DF Dc WP With
noncomputable def XS0 : Outer := fun f => if f = 70 then some ixG else none
theorem signs_run : ((List.range 20).all fun i => ansIs (run Try.prog XS0 80 6 [.int .i64 (Int.ofNat i)] ⟨0, []⟩) (.bool true)) = true := by kernel_rfl
end Go.Proofs.Ytlndidjdeneolaa.Abs
