/- The plain law of the values' order. -/
import Derived.Test.YtlndidjdeneolaaDoorG1
set_option linter.unusedVariables false
set_option linter.unusedSimpArgs false
namespace Go.Proofs.YtlndidjdeneolaaDoor.Abs
open Go
def sLt (a b : ByteArray) : Bool := Op.bytesLess (sb a) (sb b)
def cmpI (a b : Int) : Int := if a < b then -1 else if b < a then 1 else 0
def cmpS (a b : ByteArray) : Int := if sLt a b then -1 else if sLt a b || (sb a == sb b) then 0 else 1
def or3 (a b c : Int) : Int := if a ≠ 0 then a else if b ≠ 0 then b else c
/-- How two values compare. -/
def cmpV (a b : VL) : Int := if rightV a && rightV b then or3 (cmpI a.kind b.kind) (cmpI a.n b.n) (cmpS a.s b.s) else 0
theorem less_irrefl : ∀ x : List UInt8, Op.bytesLess x x = false
  | [] => rfl
  | a :: x => by simp [Op.bytesLess, less_irrefl x]
theorem less_asymm : ∀ x y : List UInt8, Op.bytesLess x y = true → Op.bytesLess y x = false
  | _, [], h => by cases h2 : (‹List UInt8›) <;> simp [Op.bytesLess] at h
  | [], b :: y, _ => rfl
  | a :: x, b :: y, h => by
    simp only [Op.bytesLess, Bool.or_eq_true, decide_eq_true_eq, Bool.and_eq_true, beq_iff_eq] at h
    simp only [Op.bytesLess, Bool.or_eq_false_iff, decide_eq_false_iff_not, Bool.and_eq_false_iff, beq_eq_false_iff_ne]
    rcases h with h | ⟨rfl, h⟩
    · rw [UInt8.lt_iff_toNat_lt] at h
      refine ⟨fun h2 => ?_, .inl fun h2 => ?_⟩
      · rw [UInt8.lt_iff_toNat_lt] at h2; omega
      · subst h2; omega
    · exact ⟨fun h2 => by rw [UInt8.lt_iff_toNat_lt] at h2; omega, .inr (less_asymm x y h)⟩
theorem less_total : ∀ x y : List UInt8, Op.bytesLess x y = false → Op.bytesLess y x = false → x = y
  | [], [], _, _ => rfl
  | [], b :: y, h, _ => by simp [Op.bytesLess] at h
  | a :: x, [], _, h => by simp [Op.bytesLess] at h
  | a :: x, b :: y, h, k => by
    simp only [Op.bytesLess, Bool.or_eq_false_iff, decide_eq_false_iff_not, Bool.and_eq_false_iff, beq_eq_false_iff_ne, UInt8.lt_iff_toNat_lt] at h k
    have e : a = b := UInt8.toNat_inj.1 (by omega)
    subst e
    rw [less_total x y (h.2.resolve_left fun h => h rfl) (k.2.resolve_left fun h => h rfl)]
theorem less_trans : ∀ x y z : List UInt8, Op.bytesLess x y = true → Op.bytesLess y z = true → Op.bytesLess x z = true
  | _, _, [], _, h => by cases h2 : (‹List UInt8›) <;> simp [Op.bytesLess] at h
  | _, [], _ :: _, h, _ => by simp [Op.bytesLess] at h
  | [], b :: y, c :: z, _, _ => rfl
  | a :: x, b :: y, c :: z, h, k => by
    simp only [Op.bytesLess, Bool.or_eq_true, decide_eq_true_eq, Bool.and_eq_true, beq_iff_eq, UInt8.lt_iff_toNat_lt] at h k ⊢
    rcases h with h | ⟨rfl, h⟩
    · rcases k with k | ⟨rfl, k⟩
      · left; omega
      · left; exact h
    · rcases k with k | ⟨rfl, k⟩
      · left; exact k
      · right; exact ⟨rfl, less_trans x y z h k⟩
theorem cmpS_cases (a b : ByteArray) : (cmpS a b = -1 ∧ sLt a b = true) ∨ (cmpS a b = 0 ∧ a = b) ∨ (cmpS a b = 1 ∧ sLt b a = true) := by
  unfold cmpS
  cases h1 : sLt a b with
  | true => left; simp
  | false =>
    cases h2 : (sb a == sb b) with
    | true =>
      right; left
      refine ⟨by simp, ?_⟩
      have h3 : sb a = sb b := by simpa using h2
      have e1 : a = ⟨(sb a).toArray⟩ := rfl
      rw [e1, h3]; rfl
    | false =>
      right; right
      refine ⟨by simp, ?_⟩
      cases h4 : sLt b a with
      | true => rfl
      | false =>
        have := less_total _ _ h1 h4
        rw [this] at h2
        simp at h2
theorem cmpS_self (a : ByteArray) : cmpS a a = 0 := by
  have h : sLt a a = false := less_irrefl _
  simp [cmpS, h]
theorem cmpS_neg (a b : ByteArray) : cmpS b a = - cmpS a b := by
  rcases cmpS_cases a b with ⟨h1, h2⟩ | ⟨h1, rfl⟩ | ⟨h1, h2⟩
  · rcases cmpS_cases b a with ⟨h3, h4⟩ | ⟨h3, rfl⟩ | ⟨h3, h4⟩
    · have := less_asymm _ _ h2
      rw [show Op.bytesLess (sb b) (sb a) = true from h4] at this
      cases this
    · rw [cmpS_self] at h1; omega
    · omega
  · rw [cmpS_self]; rfl
  · rcases cmpS_cases b a with ⟨h3, h4⟩ | ⟨h3, rfl⟩ | ⟨h3, h4⟩
    · omega
    · rw [cmpS_self] at h1; omega
    · have := less_asymm _ _ h2
      rw [show Op.bytesLess (sb a) (sb b) = true from h4] at this
      cases this
theorem cmpS_trans (a b c : ByteArray) (h1 : cmpS a b ≤ 0) (h2 : cmpS b c ≤ 0) : cmpS a c ≤ 0 := by
  rcases cmpS_cases a b with ⟨e1, f1⟩ | ⟨e1, rfl⟩ | ⟨e1, f1⟩
  · rcases cmpS_cases b c with ⟨e2, f2⟩ | ⟨e2, rfl⟩ | ⟨e2, f2⟩
    · have h3 : sLt a c = true := less_trans _ _ _ f1 f2
      simp [cmpS, h3]
    · exact h1
    · omega
  · exact h2
  · omega
theorem or3_pos (k k' n n' u : Int) : (0 < or3 (cmpI k k') (cmpI n n') u) ↔ (k' < k ∨ (k = k' ∧ (n' < n ∨ (n = n' ∧ 0 < u)))) := by
  unfold or3 cmpI
  by_cases h1 : k < k' <;> by_cases h2 : k' < k <;> by_cases h3 : n < n' <;> by_cases h4 : n' < n <;> simp [h1, h2, h3, h4] <;> omega
theorem or3_zero (k k' n n' u : Int) : (or3 (cmpI k k') (cmpI n n') u = 0) ↔ (k = k' ∧ n = n' ∧ u = 0) := by
  unfold or3 cmpI
  by_cases h1 : k < k' <;> by_cases h2 : k' < k <;> by_cases h3 : n < n' <;> by_cases h4 : n' < n <;> simp [h1, h2, h3, h4] <;> omega
theorem or3_neg (k k' n n' u : Int) : or3 (cmpI k' k) (cmpI n' n) (-u) = - or3 (cmpI k k') (cmpI n n') u := by
  unfold or3 cmpI
  by_cases h1 : k < k' <;> by_cases h2 : k' < k <;> by_cases h3 : n < n' <;> by_cases h4 : n' < n <;> simp [h1, h2, h3, h4] <;> omega
theorem or3_range (k k' n n' u : Int) (hu : -1 ≤ u ∧ u ≤ 1) : -1 ≤ or3 (cmpI k k') (cmpI n n') u ∧ or3 (cmpI k k') (cmpI n n') u ≤ 1 := by
  unfold or3 cmpI
  by_cases h1 : k < k' <;> by_cases h2 : k' < k <;> by_cases h3 : n < n' <;> by_cases h4 : n' < n <;> simp [h1, h2, h3, h4] <;> omega
end Go.Proofs.YtlndidjdeneolaaDoor.Abs
