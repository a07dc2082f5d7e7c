/- Reckoning with values, in plain Lean. -/
import Derived.Test.YtlndidjdeneolaaDoorI0
set_option linter.unusedVariables false
set_option linter.unusedSimpArgs false
namespace Go.Proofs.YtlndidjdeneolaaDoor.Abs
open Go
def errL (n : Int) : VL := ⟨4, n, .empty⟩
def intL (n : Int) : VL := ⟨1, n, .empty⟩
def boolL (b : Bool) : VL := ⟨3, if b then 1 else 0, .empty⟩
def zeroL : VL := ⟨0, 0, .empty⟩
def textL (s : ByteArray) : VL := if (200 : Int) < s.size then errL 1 else ⟨2, 0, s⟩
/-- The number of a sign. -/
def opn (s : ByteArray) : Nat :=
  if sb s = [43] then 1 else if sb s = [45] then 2 else if sb s = [42] then 3 else if sb s = [47] then 4 else if sb s = [38] then 5 else if sb s = [61] then 6 else if sb s = [60, 62] then 7 else if sb s = [60] then 8 else if sb s = [62] then 9 else if sb s = [60, 61] then 10 else if sb s = [62, 61] then 11 else 0
theorem opn_le (s : ByteArray) : opn s ≤ 11 := by
  unfold opn
  repeat' split
  all_goals omega
def inR (n : Int) : Bool := decide (-9223372036854775808 ≤ n) && decide (n ≤ 9223372036854775807)
def ofR (n : Int) : VL := if inR n then intL n else errL 1
def divL (x y : Int) : VL := if y = 0 then errL 2 else if x = -9223372036854775808 ∧ y = -1 then errL 1 else intL (x.tdiv y)
def reckL (o : Nat) (x y : Int) : VL := if o = 1 then ofR (x + y) else if o = 2 then ofR (x - y) else if o = 3 then ofR (x * y) else divL x y
def numL (v : VL) : Int × VL × Bool :=
  if !rightV v then (0, errL 3, false) else if v.kind = 4 then (0, v, false) else if v.kind = 1 ∨ v.kind = 0 then (v.n, zeroL, true) else (0, errL 3, false)
def firstL (a b : VL) : VL × Bool :=
  if !(rightV a && rightV b) then (errL 3, true) else if a.kind = 4 then (a, true) else if b.kind = 4 then (b, true) else (zeroL, false)
def cmpO (o : Nat) (n : Int) : Bool :=
  if o = 6 then decide (n = 0) else if o = 7 then !decide (n = 0) else if o = 8 then decide (n < 0) else if o = 9 then decide (0 < n) else if o = 10 then decide (n ≤ 0) else if o = 11 then decide (0 ≤ n) else false
/-- What two values are by a sign. -/
def pairL (sh : VL → ByteArray) (o : Nat) (a b : VL) : VL :=
  if (firstL a b).2 then (firstL a b).1 else
  if 6 ≤ o then boolL (cmpO o (cmpV a b)) else
  if o = 5 then textL (sh a ++ sh b) else
  if o = 0 then errL 5 else
  if !(numL a).2.2 then (numL a).2.1 else if !(numL b).2.2 then (numL b).2.1 else reckL o (numL a).1 (numL b).1
theorem wrap_spec (n : Int) : ∃ k : Int, IntKind.i64.wrap n = n - k * 18446744073709551616 ∧ -9223372036854775808 ≤ IntKind.i64.wrap n ∧ IntKind.i64.wrap n ≤ 9223372036854775807 := by
  simp only [IntKind.wrap, IntKind.bits, IntKind.signed]
  simp
  split
  · exact ⟨⟨n / 18446744073709551616 + 1, by omega⟩, by omega, by omega⟩
  · exact ⟨⟨n / 18446744073709551616, by omega⟩, by omega, by omega⟩
theorem inR_iff (n : Int) : inR n = true ↔ (-9223372036854775808 ≤ n ∧ n ≤ 9223372036854775807) := by simp [inR]
theorem wrap_inR (n : Int) : inR (IntKind.i64.wrap n) = true := by
  obtain ⟨k, h1, h2, h3⟩ := wrap_spec n
  rw [inR_iff]; exact ⟨h2, h3⟩
theorem add_ok {x y : Int} (hx : inR x = true) (hy : inR y = true) : (decide (x ≤ IntKind.i64.wrap (x + y)) == decide (0 ≤ y)) = inR (x + y) := by
  rw [inR_iff] at hx hy
  obtain ⟨k, h1, h2, h3⟩ := wrap_spec (x + y)
  have hk : k = 0 ∨ k = 1 ∨ k = -1 := by omega
  rw [Bool.eq_iff_iff, beq_iff_eq, inR_iff, decide_eq_decide]
  rcases hk with rfl | rfl | rfl <;> omega
theorem sub_ok {x y : Int} (hx : inR x = true) (hy : inR y = true) : (decide (IntKind.i64.wrap (x - y) ≤ x) == decide (0 ≤ y)) = inR (x - y) := by
  rw [inR_iff] at hx hy
  obtain ⟨k, h1, h2, h3⟩ := wrap_spec (x - y)
  have hk : k = 0 ∨ k = 1 ∨ k = -1 := by omega
  rw [Bool.eq_iff_iff, beq_iff_eq, inR_iff, decide_eq_decide]
  rcases hk with rfl | rfl | rfl <;> omega
theorem wrapR {n : Int} (h : inR n = true) : IntKind.i64.wrap n = n := by
  rw [inR_iff] at h
  exact wrap_id h.1 h.2
theorem tdiv_le (z y : Int) : (z.tdiv y).natAbs ≤ z.natAbs := by
  rw [Int.natAbs_tdiv]; exact Nat.div_le_self _ _
theorem times_ok {x y : Int} (hx : inR x = true) (hy : inR y = true) (h0 : y ≠ 0) (hm : ¬ (y = -1 ∧ x = -9223372036854775808)) : (IntKind.i64.wrap ((IntKind.i64.wrap (x * y)).tdiv y) = x) ↔ inR (x * y) = true := by
  constructor
  · intro h
    rw [inR_iff] at hx hy
    obtain ⟨k, h1, h2, h3⟩ := wrap_spec (x * y)
    generalize IntKind.i64.wrap (x * y) = z at h h1 h2 h3
    have ht := tdiv_le z y
    have hm2 := Int.mul_tdiv_add_tmod z y
    have hmod : (z.tmod y).natAbs < y.natAbs := by rw [Int.natAbs_tmod]; exact Nat.mod_lt _ (by omega)
    have hq : IntKind.i64.wrap (z.tdiv y) = z.tdiv y := by
      by_cases hq : z.tdiv y = 9223372036854775808
      · exfalso
        have : z = -9223372036854775808 := by omega
        subst this
        rw [hq] at h
        have h5 : IntKind.i64.wrap 9223372036854775808 = -9223372036854775808 := by decide
        rw [h5] at h
        subst h
        have hym : ¬ y = -1 := fun h => hm ⟨h, rfl⟩
        rw [hq] at hm2
        omega
      · exact wrap_id (by omega) (by omega)
    rw [hq] at h
    rw [h] at hm2
    rw [Int.mul_comm y x] at hm2
    have : k = 0 := by omega
    subst this
    rw [inR_iff]
    omega
  · intro h
    rw [wrapR h, Int.mul_tdiv_cancel _ h0, wrapR hx]
theorem times_min {x y : Int} : (y = -1 ∧ x = -9223372036854775808) ∨ (x = -1 ∧ y = -9223372036854775808) → inR (x * y) = false := by
  rintro (⟨rfl, rfl⟩ | ⟨rfl, rfl⟩) <;> decide
theorem div_in {x y : Int} (hx : inR x = true) (h0 : y ≠ 0) (hm : ¬ (x = -9223372036854775808 ∧ y = -1)) : inR (x.tdiv y) = true := by
  rw [inR_iff] at hx ⊢
  have ht := tdiv_le x y
  have hq : ¬ x.tdiv y = 9223372036854775808 := by
    intro hq
    have hx2 : x = -9223372036854775808 := by omega
    subst hx2
    have hm2 := Int.mul_tdiv_add_tmod (-9223372036854775808) y
    have hmod : ((-9223372036854775808 : Int).tmod y).natAbs < y.natAbs := by rw [Int.natAbs_tmod]; exact Nat.mod_lt _ (by omega)
    rw [hq] at hm2
    have : ¬ y = -1 := fun h => hm ⟨rfl, h⟩
    have hle : ((-9223372036854775808 : Int).tmod y).natAbs ≤ 9223372036854775808 := by
      rw [Int.natAbs_tmod]
      exact Nat.le_trans (Nat.mod_le _ _) (by decide)
    omega
  omega
/-- The half of a sum, by the halves. -/
theorem and_bits (a b : Int) : IntKind.i64.wrap ((BitVec.ofInt 64 (IntKind.i64.wrap ((BitVec.ofInt 64 a &&& BitVec.ofInt 64 b).toNat : Int)) &&& BitVec.ofInt 64 1).toNat : Int) = (a % 2) * (b % 2) := by
  have h1 : ∀ n : Int, ((BitVec.ofInt 64 n &&& BitVec.ofInt 64 1).toNat : Int) = n % 2 := by
    intro n
    rw [BitVec.toNat_and, show (BitVec.ofInt 64 1).toNat = 1 by decide, Nat.and_one_is_mod, BitVec.toNat_ofInt]
    have : ((2 : Nat) ^ 64 : Nat) = 18446744073709551616 := by decide
    rw [this]
    omega
  rw [h1]
  have h2 : ∀ n : Int, (IntKind.i64.wrap n) % 2 = n % 2 := fun n => by
    obtain ⟨k, e, -, -⟩ := wrap_spec n
    omega
  rw [h2]
  have h3 : ((BitVec.ofInt 64 a &&& BitVec.ofInt 64 b).toNat : Int) % 2 = (a % 2) * (b % 2) := by
    have h4 : ∀ n : Int, (BitVec.ofInt 64 n).toNat % 2 = (n % 2).toNat := fun n => by
      rw [BitVec.toNat_ofInt]
      have : ((2 : Nat) ^ 64 : Nat) = 18446744073709551616 := by decide
      rw [this]
      omega
    have h5 : (BitVec.ofInt 64 a &&& BitVec.ofInt 64 b).toNat % 2 = (a % 2).toNat &&& (b % 2).toNat := by
      have := Nat.and_mod_two_pow (a := (BitVec.ofInt 64 a).toNat) (b := (BitVec.ofInt 64 b).toNat) (n := 1)
      rw [Nat.pow_one] at this
      rw [BitVec.toNat_and, this, h4, h4]
    have h6 : ((BitVec.ofInt 64 a &&& BitVec.ofInt 64 b).toNat : Int) % 2 = (((a % 2).toNat &&& (b % 2).toNat : Nat) : Int) := by rw [← h5]; omega
    rw [h6]
    have ha : a % 2 = 0 ∨ a % 2 = 1 := by omega
    have hb : b % 2 = 0 ∨ b % 2 = 1 := by omega
    rcases ha with ha | ha <;> rcases hb with hb | hb <;> rw [ha, hb] <;> decide
  rw [h3]
  have ha : a % 2 = 0 ∨ a % 2 = 1 := by omega
  have hb : b % 2 = 0 ∨ b % 2 = 1 := by omega
  rcases ha with ha | ha <;> rcases hb with hb | hb <;> rw [ha, hb] <;> decide
theorem half_sum (a b : Int) : a.fdiv 2 + b.fdiv 2 + (a % 2) * (b % 2) = (a + b) / 2 := by
  rw [Int.fdiv_eq_ediv_of_nonneg _ (by omega), Int.fdiv_eq_ediv_of_nonneg _ (by omega)]
  have ha : a % 2 = 0 ∨ a % 2 = 1 := by omega
  have hb : b % 2 = 0 ∨ b % 2 = 1 := by omega
  rcases ha with ha | ha <;> rcases hb with hb | hb <;> rw [ha, hb] <;> omega
end Go.Proofs.YtlndidjdeneolaaDoor.Abs
