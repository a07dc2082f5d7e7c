/- Calls whose arguments and answer hold no address: they are run over the empty heap, and leave the heap as it is. -/
import Derived.Test.YtliemjbafgnnbaaDoorPA17
set_option maxHeartbeats 0
set_option linter.unusedSimpArgs false
set_option linter.unusedVariables false
namespace Go.Proofs.YtliemjbafgnnbaaDoor.Abs
open Go Go.RowKit
section
variable {P : Program} {B : Nat} {w0 : World}
theorem zana {φ : Plan} {args args' : List Value} (h : args.all (flat 8) = true) (hv : VRs φ args args') : args' = args := by
 apply List.ext_getElem hv.1.symm
 intro i h1 h2
 have := hv.2 i
 rw [List.getD_eq_getElem?_getD, List.getD_eq_getElem?_getD, List.getElem?_eq_getElem h2, List.getElem?_eq_getElem h1] at this
 exact zafv 8 _ _ (List.all_eq_true.1 h _ (by simp)) this
variable {X : Outer}
end
end Go.Proofs.YtliemjbafgnnbaaDoor.Abs
