/- The reference's reckoning, in plain Lean. -/
import Derived.Test.YtenilfkkpoajbaaDoorK0
set_option linter.unusedVariables false
set_option linter.unusedSimpArgs false
namespace Go.Proofs.YtenilfkkpoajbaaDoor.Abs
open Go
theorem qadd_ok {x y : Int} (hx : inR x = true) (hy : inR y = true) (h0 : y ≠ 0) : (decide (x < IntKind.i64.wrap (x + y)) == decide (0 < y)) = inR (x + y) := by
  rw [inR_iff] at hx hy
  obtain ⟨k, h1, h2, h3⟩ := wrap_spec (x + y)
  have hk : k = 0 ∨ k = 1 ∨ k = -1 := by omega
  rw [Bool.eq_iff_iff, beq_iff_eq, inR_iff, decide_eq_decide]
  rcases hk with rfl | rfl | rfl <;> omega
theorem qsub_ok {x y : Int} (hx : inR x = true) (hy : inR y = true) (h0 : y ≠ 0) : (decide (IntKind.i64.wrap (x - y) < x) == decide (0 < y)) = inR (x - y) := by
  rw [inR_iff] at hx hy
  obtain ⟨k, h1, h2, h3⟩ := wrap_spec (x - y)
  have hk : k = 0 ∨ k = 1 ∨ k = -1 := by omega
  rw [Bool.eq_iff_iff, beq_iff_eq, inR_iff, decide_eq_decide]
  rcases hk with rfl | rfl | rfl <;> omega
theorem qmul_l {y : Int} (hy : inR y = true) : inR (-1 * y) = (y != -9223372036854775808) := by
  rw [inR_iff] at hy
  rw [Bool.eq_iff_iff, inR_iff, bne_iff_ne]
  omega
theorem qmul_r {x : Int} (hx : inR x = true) : inR (x * -1) = (x != -9223372036854775808) := by
  rw [inR_iff] at hx
  rw [Bool.eq_iff_iff, inR_iff, bne_iff_ne]
  omega
end Go.Proofs.YtenilfkkpoajbaaDoor.Abs
