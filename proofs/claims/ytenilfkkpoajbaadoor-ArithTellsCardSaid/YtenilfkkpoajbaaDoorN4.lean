/- The law ArithTells: what is supplied from outside is sound. -/
import Derived.Test.YtenilfkkpoajbaaDoorN3
set_option linter.unusedVariables false
set_option linter.unusedSimpArgs false
namespace Go.Proofs.YtenilfkkpoajbaaDoor.Abs
open Go Go.RowKit
theorem xn_sound (mixed : Tryd.prog.follows .mixedOrders = true) {W : World} (htab : Lib.TabIs Tryd.prog W "internal/strconv.uint64pow10" .u64 Lib.pow10Tab) : XSound Tryd.prog W.heap.size W XN := by
  intro f g hg
  unfold XN at hg
  split at hg
  · rename_i hf
    subst hf
    cases hg
    exact itoa_sound fun w b => tab_below htab b
  · split at hg
    · rename_i hf
      subst hf
      cases hg
      exact true_sound mixed (fun B w0 => xsound_none) arith_alive _ _
    · cases hg
end Go.Proofs.YtenilfkkpoajbaaDoor.Abs
