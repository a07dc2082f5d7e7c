/- Calls whose arguments and answer hold no address: they are run over the empty heap, and leave the heap as it is. -/
import Derived.Test.YtmdpggecelheoaaDoorPA17
set_option linter.unusedVariables false
set_option linter.unusedSimpArgs false
namespace Go.Proofs.YtmdpggecelheoaaDoor.Abs
open Go Go.RowKit

section
variable {P : Program} {B : Nat} {w0 : World}
def flatT : Value → Bool
  | .tuple x => !x.isEmpty && x.toList.all (flat 8)
  | v => flat 8 v
theorem flat_tup {n : Nat} {x : Array Value} : flat n (.tuple x) = false := by cases n <;> rfl
theorem flatT_eq {φ : Plan} {v v' : Value} (h : flatT v = true) (hv : VR φ v v') : v' = v := by
  cases v
  case tuple x =>
    simp only [flatT, Bool.and_eq_true, Bool.not_eq_true', List.all_eq_true] at h
    cases hv with
    | junk => simp at h
    | tuple _ x' hs hx =>
      congr 1
      apply Array.ext hs.symm
      intro i h1 h2
      have := hx i
      rw [Array.getD_eq_getD_getElem?, Array.getD_eq_getD_getElem?, Array.getElem?_eq_getElem h2, Array.getElem?_eq_getElem h1] at this
      simp only [Option.getD_some] at this
      exact flat_eq 8 _ _ (h.2 _ (by simp)) this
  all_goals exact flat_eq 8 _ _ h hv
theorem flatT_refl {φ : Plan} {v : Value} (h : flatT v = true) : VR φ v v := by
  cases v
  case tuple x =>
    simp only [flatT, Bool.and_eq_true, Bool.not_eq_true', List.all_eq_true] at h
    refine .tuple x x rfl fun i => ?_
    rw [Array.getD_eq_getD_getElem?]
    by_cases hi : i < x.size
    · rw [Array.getElem?_eq_getElem hi]
      exact flat_refl 8 _ (h.2 _ (by simp))
    · rw [Array.getElem?_eq_none (by omega)]
      exact .undef _ _
  all_goals exact flat_refl 8 _ h
theorem flats_eq {φ : Plan} {args args' : List Value} (h : args.all (flat 8) = true) (hv : VRs φ args args') : args' = args := by
  apply List.ext_getElem hv.1.symm
  intro i h1 h2
  have := hv.2 i
  rw [List.getD_eq_getElem?_getD, List.getD_eq_getElem?_getD, List.getElem?_eq_getElem h2, List.getElem?_eq_getElem h1] at this
  exact flat_eq 8 _ _ (List.all_eq_true.1 h _ (by simp)) this
theorem flats_refl {φ : Plan} {args : List Value} (h : args.all (flat 8) = true) : VRs φ args args := by
  refine ⟨rfl, fun i => ?_⟩
  rw [List.getD_eq_getElem?_getD]
  by_cases hi : i < args.length
  · rw [List.getElem?_eq_getElem hi]
    exact flat_refl 8 _ (List.all_eq_true.1 h _ (by simp))
  · rw [List.getElem?_eq_none (by omega)]
    exact .undef _ _
/-- A call over the empty heap. -/
def pureX (P : Program) (X' : Outer) (n : Nat) (f : FuncId) : List Value → Hp → Option (Value × Hp) := fun args H =>
  if args.all (flat 8) then (run P X' n f args ⟨0, .tip⟩).bind fun r => if flatT r.1 then some (r.1, H) else none else none
/-- The functions of S are called so. -/
def withPure (P : Program) (X' : Outer) (n : Nat) (S : List FuncId) : Outer := fun f => if S.contains f then some (pureX P X' n f) else X' f
theorem xsound_pure (hm : P.follows .mixedOrders = true) {X' : Outer} (h : ∀ B w0, XSound P B w0 X') (n : Nat) (S : List FuncId) (B : Nat) (w0 : World) : XSound P B w0 (withPure P X' n S) := by
  intro f g hg
  unfold withPure at hg
  split at hg
  · cases hg
    intro w1 hw1 f' args H v H' hr φ w args' hR ha
    simp only at hr
    split at hr
    · rename_i hff
      subst hff
      unfold pureX at hr
      split at hr
      · rename_i hfl
        simp only [Option.bind_eq_some_iff] at hr
        obtain ⟨⟨v1, H1⟩, h1, h2⟩ := hr
        split at h2
        · rename_i hfv
          cases h2
          have e := flats_eq hfl ha
          subst e
          refine (run_sound hm (h w.heap.size w) n w rfl f' args' _ v1 H1 h1 (fun _ => none) w args' (rel_start w) (flats_refl hfl)).mono ?_
          rintro e w' ⟨ψ, v', _, rfl, hv, hR'⟩
          have e2 := flatT_eq hfv hv
          subst e2
          exact ⟨φ, v', Plan.le_refl φ, rfl, flatT_refl hfv, hR.grow hR'.below⟩
        · cases h2
      · cases hr
    · cases hr
  · exact h B w0 f g hg
variable {X : Outer}
theorem Df_pure {X' : Outer} {n : Nat} {f : FuncId} {args : List Value} {H H0 : Hp} {v : Value} {Q : Value → Hp → Prop} (hX : X f = some (pureX P X' n f)) (ha : args.all (flat 8) = true) (hr : run P X' n f args ⟨0, .tip⟩ = some (v, H0)) (hv : flatT v = true) (hq : Q v H) : Df P X f args H Q :=
  Df_ext hX (r := (v, H)) (by simp only [pureX, ha, if_true, hr, Option.bind_some, hv]) hq
/-- A closed call's answer alone. -/
def ansIs (o : Option (Value × Hp)) (v : Value) : Bool := match o with | some r => vbeq r.1 v | none => false
theorem ansIs_some {o : Option (Value × Hp)} {v : Value} (h : ansIs o v = true) : ∃ H, o = some (v, H) := by
  unfold ansIs at h
  split at h
  · rename_i r
    exact ⟨r.2, by rw [← vbeq_eq _ _ h]⟩
  · cases h
theorem Df_closed {X' : Outer} {n : Nat} {f : FuncId} {args : List Value} {H : Hp} {v : Value} {Q : Value → Hp → Prop} (hX : X f = some (pureX P X' n f)) (ha : args.all (flat 8) = true) (hr : ansIs (run P X' n f args ⟨0, .tip⟩) v = true) (hv : flatT v = true) (hq : Q v H) : Df P X f args H Q := by
  obtain ⟨H0, h⟩ := ansIs_some hr
  exact Df_pure hX ha h hv hq

/-! ### Equality of a value with itself -/
def selfF (P : Program) (ok : TypeId → Value → Bool) (xs : Array Value) : List Field → Bool
  | [] => true
  | f :: fs => (if f.name = "_" then true else match apart P f.type xs f.offset with | some a => ok f.type a | none => false) && selfF P ok xs fs
def selfOk (P : Program) : Nat → TypeId → Value → Bool
  | 0, _, _ => false
  | d + 1, t, x => match P.underlying t, x with
    | some .bool, .bool _ => true
    | some (.int _), .int _ _ => true
    | some .string, .string _ => true
    | some (.struct fs), .agg xs => !P.stoodInHeld t && selfF P (selfOk P d) xs fs.toList
    | _, _ => false
theorem aeq_self : ∀ (d : Nat) (t : TypeId) (v : Value), selfOk P d t v = true → aeq P d t v v = some true := by
  intro d
  induction d with
  | zero => intro t v h; simp [selfOk] at h
  | succ d ih =>
    intro t v h
    simp only [selfOk] at h
    split at h
    · rename_i hu; simp [aeq, hu]
    · rename_i hu; simp [aeq, hu]
    · rename_i hu; simp [aeq, hu]
    · rename_i fs xs hu
      simp only [Bool.and_eq_true, Bool.not_eq_true'] at h
      simp only [aeq, hu, h.1, Bool.false_eq_true, if_false]
      have h2 := h.2
      clear h hu
      generalize fs.toList = l at h2
      induction l with
      | nil => rfl
      | cons f l ihl =>
        simp only [selfF, Bool.and_eq_true] at h2
        simp only [aeqF]
        split
        · exact ihl h2.2
        · rename_i hn
          have h1 := h2.1
          rw [if_neg hn] at h1
          split at h1
          · rename_i a ha
            simp only [ha, Option.bind_some, ih _ _ h1, if_true]
            exact ihl h2.2
          · cases h1
    · cases h
end
end Go.Proofs.YtmdpggecelheoaaDoor.Abs
