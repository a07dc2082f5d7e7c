/- What an argument reads as, laid into the plain heap. -/
import Derived.Test.YtliemjbafgnnbaaDoorPA10
set_option maxHeartbeats 0
set_option linter.unusedSimpArgs false
set_option linter.unusedVariables false
namespace Go.Proofs.YtliemjbafgnnbaaDoor.Abs
open Go Go.RowKit
structure Hp.le (H H' : Hp) : Prop where
 next : H.next ≤ H'.next
 get : ∀ i, i < H.next → H'.get i = H.get i
theorem Hp.le_refl (H : Hp) : H.le H := ⟨Nat.le_refl _, fun _ _ => rfl⟩
theorem Hp.le_trans {H H1 H2 : Hp} (h : H.le H1) (k : H1.le H2) : H.le H2 := ⟨Nat.le_trans h.next k.next, fun i hi => by rw [k.get i (Nat.lt_of_lt_of_le hi h.next), h.get i hi]⟩
section
variable {P : Program} {Hh : Type} {enc : TypeId × Value → Hh}
def Opens (P : Program) (t : TypeId) (n : Nat) {α : Type} (R : Hp → α → List Value → Prop) : Prop :=
 ∀ {Hh : Type} (enc : TypeId × Value → Hh) (W : World) (cs : List Value) (d : DataW Hh) (ps : List MemPlace), DataW.trod enc P W 0 (fun _ => true) true n t cs = some (d, ps) →
  ∀ (φ : Plan) (H : Hp), Rel W.heap.size W φ H W → ∃ ψ H' acs x, φ.le ψ ∧ H.le H' ∧ Rel W.heap.size W ψ H' W ∧ VRs ψ acs cs ∧ (∀ u ∈ cs, u.oneCell' = true) ∧ R H' x acs
def RInt (k : IntKind) : Hp → Int → List Value → Prop := fun _ n cs => cs = [.int k n] ∧ (Lit.int k n).wf = true
def RBool : Hp → Bool → List Value → Prop := fun _ b cs => cs = [.bool b]
def RStr : Hp → ByteArray → List Value → Prop := fun _ s cs => cs = [.string s] ∧ s.size ≤ 9223372036854775807
def Mono {α : Type} (R : Hp → α → List Value → Prop) : Prop := ∀ H H' x cs, H.le H' → R H x cs → R H' x cs
theorem RInt.mono (k : IntKind) : Mono (RInt k) := fun _ _ _ _ _ h => h
theorem RBool.mono : Mono RBool := fun _ _ _ _ _ h => h
theorem RStr.mono : Mono RStr := fun _ _ _ _ _ h => h
def RCons {α β : Type} (R : Hp → α → List Value → Prop) (S : Hp → β → List Value → Prop) : Hp → α × β → List Value → Prop := fun H x cs => ∃ c1 c2, cs = c1 ++ c2 ∧ R H x.1 c1 ∧ S H x.2 c2
theorem RCons.mono {α β : Type} {R : Hp → α → List Value → Prop} {S : Hp → β → List Value → Prop} (h : Mono R) (k : Mono S) : Mono (RCons R S) := fun H H' x cs hl ⟨c1, c2, e, a, b⟩ => ⟨c1, c2, e, h _ _ _ _ hl a, k _ _ _ _ hl b⟩
def RList {α : Type} (sz : Nat) (R : Hp → α → List Value → Prop) (H : Hp) : List α → List Value → Prop
 | [], c => c = []
 | x :: xs, c => ∃ c1 c2, c = c1 ++ c2 ∧ c1.length = sz ∧ R H x c1 ∧ RList sz R H xs c2
theorem RList.mono {α : Type} {sz : Nat} {R : Hp → α → List Value → Prop} (h : Mono R) {H H' : Hp} (hl : H.le H') : ∀ (xs : List α) (c : List Value), RList sz R H xs c → RList sz R H' xs c
 | [], _, e => e
 | x :: xs, _, ⟨c1, c2, e, l, a, b⟩ => ⟨c1, c2, e, l, h _ _ _ _ hl a, RList.mono h hl xs c2 b⟩
theorem RList.length {α : Type} {sz : Nat} {R : Hp → α → List Value → Prop} {H : Hp} : ∀ (xs : List α) (c : List Value), RList sz R H xs c → c.length = xs.length * sz
 | [], _, e => by cases e; simp
 | x :: xs, _, ⟨c1, c2, e, l, a, b⟩ => by subst e; simp [RList.length xs c2 b, l, Nat.add_mul]; omega
def RSlice {α : Type} (e : TypeId) (sz : Nat) (R : Hp → α → List Value → Prop) : Hp → List α → List Value → Prop := fun H xs cs =>
 ∃ v, cs = [v] ∧ ((xs = [] ∧ (v = .slice none 0 0 ∨ ∃ b, v = .slice (some ⟨b, 0, none⟩) 0 sz)) ∨
  (xs ≠ [] ∧ ∃ i c, v = .slice (some ⟨i, 0, none⟩) xs.length sz ∧ i < H.next ∧ H.get i = .cells false e c ∧ RList sz R H xs c))
theorem RSlice.mono {α : Type} {e : TypeId} {sz : Nat} {R : Hp → α → List Value → Prop} (h : Mono R) : Mono (RSlice e sz R) := by
 rintro H H' xs cs hl ⟨v, e1, h1 | ⟨h0, i, c, e2, hi, hg, hr⟩⟩
 ·exact ⟨v, e1, .inl h1⟩
 ·exact ⟨v, e1, .inr ⟨h0, i, c, e2, Nat.lt_of_lt_of_le hi hl.next, by rw [hl.get i hi]; exact hg, RList.mono h hl xs c hr⟩⟩
def OpensF (P : Program) (fs : List Field) (off total n : Nat) {α : Type} (R : Hp → α → List Value → Prop) : Prop :=
 ∀ {Hh : Type} (enc : TypeId × Value → Hh) (W : World) (cs : List Value) (xs : List (DataW Hh × List MemPlace)), cs.length = total → fs.mapM (fun f => DataW.trod enc P W 0 (fun _ => true) true n f.type ((cs.drop f.offset).take (P.cellsOf f.type))) = some xs →
  ∀ (φ : Plan) (H : Hp), Rel W.heap.size W φ H W → ∃ ψ H' acs x, φ.le ψ ∧ H.le H' ∧ Rel W.heap.size W ψ H' W ∧ VRs ψ acs (cs.drop off) ∧ (∀ u ∈ cs.drop off, u.oneCell' = true) ∧ R H' x acs
end
end Go.Proofs.YtliemjbafgnnbaaDoor.Abs
