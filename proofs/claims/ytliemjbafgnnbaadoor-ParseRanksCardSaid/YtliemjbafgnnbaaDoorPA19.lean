/- Arguments without addresses, cell by cell; arguments of a call, opened one behind the other. -/
import Derived.Test.YtliemjbafgnnbaaDoorPA18
import Derived.WalkKit
import Derived.ProofKit
import Derived.OpenShut
import Derived.ShutString
import Derived.ChangeOld
import Derived.Below
import Derived.SizedLaws
set_option maxHeartbeats 0
set_option linter.unusedSimpArgs false
set_option linter.unusedVariables false
namespace Go.Proofs.YtliemjbafgnnbaaDoor.Abs
open Go Go.RowKit
inductive Sh where
 | bool
 | int (k : IntKind)
 | str
def Sh.ok : Sh → Value → Prop
 | .bool, v => ∃ b, v = .bool b
 | .int k, v => ∃ n, v = .int k n ∧ (Lit.int k n).wf = true
 | .str, v => ∃ s, v = .string s ∧ s.size ≤ 9223372036854775807
def shapes : List Sh → List Value → Prop
 | [], [] => True
 | s :: l, v :: vs => s.ok v ∧ shapes l vs
 | _, _ => False
def RSh (l : List Sh) : Hp → List Value → List Value → Prop := fun _ x cs => x = cs ∧ shapes l cs
theorem RSh.mono (l : List Sh) : Mono (RSh l) := fun _ _ _ _ _ h => h
section
variable {P : Program}
theorem Opens.map {t : TypeId} {n : Nat} {α β : Type} {R : Hp → α → List Value → Prop} {S : Hp → β → List Value → Prop} (h : Opens P t n R) (k : ∀ H x cs, R H x cs → ∃ y, S H y cs) : Opens P t n S := by
 intro Hh enc W cs d ps hd φ H hR
 obtain ⟨ψ, H', acs, x, h1, h2, h3, h4, h5, h6⟩ := h enc W cs d ps hd φ H hR
 obtain ⟨y, hy⟩ := k _ _ _ h6
 exact ⟨ψ, H', acs, y, h1, h2, h3, h4, h5, hy⟩
theorem OpensF.map {fs : List Field} {off total n : Nat} {α β : Type} {R : Hp → α → List Value → Prop} {S : Hp → β → List Value → Prop} (h : OpensF P fs off total n R) (k : ∀ H x cs, R H x cs → ∃ y, S H y cs) : OpensF P fs off total n S := by
 intro Hh enc W cs xs hl hx φ H hR
 obtain ⟨ψ, H', acs, x, h1, h2, h3, h4, h5, h6⟩ := h enc W cs xs hl hx φ H hR
 obtain ⟨y, hy⟩ := k _ _ _ h6
 exact ⟨ψ, H', acs, y, h1, h2, h3, h4, h5, hy⟩
theorem VRs_one {φ : Plan} {a v : Value} (h : VR φ a v) : VRs φ [a] [v] := .cons h (.nil φ)
end
end Go.Proofs.YtliemjbafgnnbaaDoor.Abs
