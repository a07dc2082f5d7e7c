/- The plain law of values: what was written is read again, whatever stands behind it, and from no beginning of it. -/
import Derived.Test.YtlndidjdeneolaaDoorG6
set_option linter.unusedVariables false
set_option linter.unusedSimpArgs false
namespace Go.Proofs.YtlndidjdeneolaaDoor.Abs
open Go
theorem valB_cons (b : UInt8) (l : List UInt8) : valB (b :: l) = b.toNat * 256 ^ l.length + valB l := by
  have key : ∀ (l : List UInt8) (a : Nat), l.foldl (fun n c => n * 256 + c.toNat) a = a * 256 ^ l.length + l.foldl (fun n c => n * 256 + c.toNat) 0 := by
    intro l
    induction l with
    | nil => intro a; simp
    | cons c l ih =>
      intro a
      simp only [List.foldl_cons, List.length_cons]
      rw [ih (a * 256 + c.toNat), ih (0 * 256 + c.toNat), Nat.zero_mul, Nat.zero_add, Nat.pow_succ, Nat.add_mul]
      have e : a * 256 * 256 ^ l.length = a * (256 ^ l.length * 256) := by rw [Nat.mul_assoc, Nat.mul_comm 256]
      rw [e]
      omega
  have := key l b.toNat
  simpa [valB] using this
theorem byteAt_of (m : Nat) (k : Nat) : (byteAt (m : Int) k).toNat = m / 256 ^ k % 256 := by
  have e : (((m : Int).fdiv (2 ^ (8 * k))) % 256).toNat = m / 256 ^ k % 256 := by
    have h2 : (2 : Int) ^ (8 * k) = ((256 ^ k : Nat) : Int) := by
      rw [Int.natCast_pow, Int.pow_mul]
      rfl
    rw [h2, Int.fdiv_eq_ediv_of_nonneg _ (Int.natCast_nonneg _)]
    have h3 : (m : Int) / ((256 ^ k : Nat) : Int) = ((m / 256 ^ k : Nat) : Int) := by simp
    rw [h3]
    omega
  simp only [byteAt, e]
  exact UInt8.toNat_ofNat_of_lt' (by show _ < 256; omega)
theorem valB_numB (m : Nat) : ∀ k, valB (numB (m : Int) k) = m % 256 ^ k
  | 0 => by simp [numB, valB, Nat.mod_one]
  | k + 1 => by
    rw [numB, valB_cons, valB_numB m k, numB_len, byteAt_of, Nat.mod_pow_succ, Nat.mul_comm]
    omega
theorem size_zero {s : ByteArray} (h : s.size = 0) : s = .empty := by
  have h1 : sb s = [] := List.length_eq_zero_iff.1 (by rw [sb_len]; exact h)
  have h2 : s = ⟨(sb s).toArray⟩ := rfl
  rw [h2, h1]; rfl
theorem wrap_back {n : Int} (h0 : -9223372036854775808 ≤ n) (h1 : n ≤ 9223372036854775807) : IntKind.i64.wrap ((valB (numB (IntKind.u64.wrap n) 8) : Nat) : Int) = n := by
  obtain ⟨m, hm⟩ := Int.eq_ofNat_of_zero_le (wrap_u64 n).1
  have h2 := (wrap_u64 n).2
  rw [hm] at h2 ⊢
  rw [valB_numB, Nat.mod_eq_of_lt (by omega), ← hm]
  simp only [IntKind.wrap, IntKind.bits, IntKind.signed]
  simp
  split <;> omega
theorem encV_ne {v : VL} (h : rightV v = true) : encV v = byteAt v.kind 0 :: payV v := by simp [encV, h]
theorem kind_cases {v : VL} (h : rightV v = true) : v.kind = 0 ∨ v.kind = 1 ∨ v.kind = 2 ∨ v.kind = 3 ∨ v.kind = 4 := by
  simp only [rightV] at h
  by_cases hk : v.kind = 0 ∨ v.kind = 1 ∨ v.kind = 2 ∨ v.kind = 3 ∨ v.kind = 4
  · exact hk
  · rw [if_neg (by omega), if_neg (by omega), if_neg (by omega), if_neg (by omega), if_neg (by omega)] at h
    cases h
theorem byteAt_small {m : Nat} (h : m < 256) : (byteAt (m : Int) 0).toNat = m := by
  rw [byteAt_of]
  simp
  omega
theorem szV_enc {v : VL} (h : rightV v = true) (more : List UInt8) : szV (encV v ++ more) = ((encV v).length : Int) := by
  rw [encV_ne h]
  have hk := kind_cases h
  obtain ⟨kind, n, s⟩ := v
  simp only at hk
  rcases hk with rfl | rfl | rfl | rfl | rfl
  · have := byteAt_small (m := 0) (by omega)
    simp only [Int.ofNat_eq_natCast, Int.cast_ofNat_Int] at this
    simp [szV, this, payV]
  · have := byteAt_small (m := 1) (by omega)
    simp only [Int.cast_ofNat_Int] at this
    simp [szV, this, payV, numB_len]
  · have h2 := byteAt_small (m := 2) (by omega)
    simp only [Int.cast_ofNat_Int] at h2
    have hs : s.size ≤ 200 := by
      simp [rightV] at h
      omega
    have h3 := byteAt_small (m := s.size) (by omega)
    simp [szV, h2, payV, h3, sb_len]
    omega
  · have := byteAt_small (m := 3) (by omega)
    simp only [Int.cast_ofNat_Int] at this
    simp [szV, this, payV]
  · have := byteAt_small (m := 4) (by omega)
    simp only [Int.cast_ofNat_Int] at this
    simp [szV, this, payV]
theorem bodV_enc {v : VL} (h : rightV v = true) (h0 : -9223372036854775808 ≤ v.n) (h1 : v.n ≤ 9223372036854775807) (more : List UInt8) : bodV (encV v ++ more) (encV v).length = v := by
  rw [encV_ne h]
  have hk := kind_cases h
  obtain ⟨kind, n, s⟩ := v
  simp only at hk h0 h1
  have htake : ∀ (x : UInt8) (p : List UInt8), ((x :: p) ++ more).take (x :: p).length = x :: p := fun x p => by
    rw [List.take_append_of_le_length (Nat.le_refl _), List.take_length]
  rcases hk with rfl | rfl | rfl | rfl | rfl
  · have hb := byteAt_small (m := 0) (by omega)
    simp only [Int.cast_ofNat_Int] at hb
    simp [rightV] at h
    have := h.2
    simp [bodV, hb, payV, h.1, this]
  · have hb := byteAt_small (m := 1) (by omega)
    simp only [Int.cast_ofNat_Int] at hb
    simp [rightV] at h
    have := h
    simp only [bodV, List.cons_append, hb]
    rw [← List.cons_append, htake]
    simp [payV, wrap_back h0 h1, this]
  · have hb := byteAt_small (m := 2) (by omega)
    simp only [Int.cast_ofNat_Int] at hb
    simp [rightV] at h
    simp only [bodV, List.cons_append, hb]
    rw [← List.cons_append, htake]
    simp [payV, h.1]
    rfl
  · have hb := byteAt_small (m := 3) (by omega)
    simp only [Int.cast_ofNat_Int] at hb
    simp [rightV] at h
    have := h.2
    have hn : 0 ≤ n ∧ n ≤ 1 := by omega
    obtain ⟨m, rfl⟩ := Int.eq_ofNat_of_zero_le hn.1
    have hw : IntKind.i64.wrap (m : Int) = m := wrap_id (by omega) (by omega)
    simp only [bodV, List.cons_append, hb]
    rw [← List.cons_append, htake]
    simp [payV, valB_single, byteAt_small (m := m) (by omega), hw, this]
  · have hb := byteAt_small (m := 4) (by omega)
    simp only [Int.cast_ofNat_Int] at hb
    simp [rightV] at h
    have := h.2
    have hn : 1 ≤ n ∧ n ≤ 7 := by omega
    obtain ⟨m, rfl⟩ := Int.eq_ofNat_of_zero_le (by omega : 0 ≤ n)
    have hw : IntKind.i64.wrap (m : Int) = m := wrap_id (by omega) (by omega)
    simp only [bodV, List.cons_append, hb]
    rw [← List.cons_append, htake]
    simp [payV, valB_single, byteAt_small (m := m) (by omega), hw, this]
theorem decV_encV {v : VL} (h : rightV v = true) (h0 : -9223372036854775808 ≤ v.n) (h1 : v.n ≤ 9223372036854775807) (more : List UInt8) : decV (encV v ++ more) = (v, ((encV v).length : Int), 0) := by
  rw [decV_good (szV_enc h more) (by simp), bodV_enc h h0 h1 more, if_pos h]
theorem szV_take : ∀ (l : List UInt8) (k : Nat), k < l.length → szV l = l.length → szV (l.take k) < 0 ∨ (k : Int) < szV (l.take k)
  | [], k, h, _ => by simp at h
  | b :: r, 0, _, _ => by left; show (-1 : Int) < 0; omega
  | b :: r, k + 1, h, hs => by
    simp only [szV] at hs
    simp only [List.take_succ_cons, szV]
    split
    · rename_i h0; rw [if_pos h0] at hs; omega
    rename_i h0
    rw [if_neg h0] at hs
    split
    · rename_i h1; rw [if_pos h1] at hs; omega
    rename_i h1
    rw [if_neg h1] at hs
    split
    · rename_i h3; rw [if_pos h3] at hs; omega
    rename_i h3
    rw [if_neg h3] at hs
    cases r with
    | nil => simp at h
    | cons c r =>
      cases k with
      | zero => left; simp
      | succ k =>
        simp only at hs
        simp only [List.take_succ_cons]
        right
        omega
theorem decV_torn {v : VL} (h : rightV v = true) {k : Nat} (hk : k < (encV v).length) : decV ((encV v).take k) = (zeroV, 0, 2) := by
  have h1 := szV_enc h []
  rw [List.append_nil] at h1
  rcases szV_take _ k hk h1 with h2 | h2
  · exact decV_bad (.inl h2)
  · exact decV_bad (.inr (by rw [List.length_take, Nat.min_eq_left (by omega)]; exact h2))
end Go.Proofs.YtlndidjdeneolaaDoor.Abs
